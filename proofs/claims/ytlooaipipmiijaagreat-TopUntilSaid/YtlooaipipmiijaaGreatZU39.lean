/- Several texts in one: WnW, WnX, TpK, TpI, TpV, TpW, TpQ. -/
import Derived.Test.YtlooaipipmiijaaGreatZU18
import Derived.Test.YtlooaipipmiijaaGreatZU24
import Derived.Test.YtlooaipipmiijaaGreatZU35
import Derived.Test.YtlooaipipmiijaaGreatZU38
namespace Go.Proofs.YtlooaipipmiijaaGreat
set_option linter.unusedVariables false
set_option linter.unusedSimpArgs false
open Go.RowKit
set_option maxHeartbeats 2000000 in
theorem wn_from_bad (w : World) (W E V D : Int) (h : ¬ CfgO W E V D) :
    Calls Tryz.prog 17 #[.agg #[.int .i64 W, .int .i64 E, .int .i64 V, .int .i64 D], .int .u64 0] w (RetB (.tuple #[.pointer none, .int .i64 2]) w) := by
  have HB : Hid (Below w.heap.size w (w.alloc (.cells #[.int .i64 W, .int .i64 E, .int .i64 V, .int .i64 D] 23))) := bel_alloc w _
  have HX := Lib.hid (Blk.new w 23 [.int .i64 W, .int .i64 E, .int .i64 V, .int .i64 D])
  simp only [List.toArray] at HX
  have hd : decide (CfgO W E V D) = false := decide_eq_false h
  have HIC := fun W1 => wn_isConfig W1 W E V D
  rw [hd] at HIC
  replace HIC := Lib.hid HIC
  clear h hd
  go_enter Tryz.func17, Tryz.ntmps17
  go_upto_region 1 with fail
  generalize hw1 : w.alloc (.cells #[.int .i64 W, .int .i64 E, .int .i64 V, .int .i64 D] 23) = w1 at *
  generalize hz : w.heap.size = z at *
  have c0 := HX.out.cell (i := 0) rfl
  have c1 := HX.out.cell (i := 1) rfl
  have c2 := HX.out.cell (i := 2) rfl
  have c3 := HX.out.cell (i := 3) rfl
  have HI1 := Lib.hid (HIC.out w1)
  go_wp2_with (go_at_call 39; refine HI1.out.mono ?_; rintro e w2 ⟨rfl, hb⟩; have HB2 := Lib.hid hb; clear hb)
  go_ret2
  refine ⟨rfl, ?_⟩
  have h1 := HB.out
  rw [← hz] at h1
  exact bel_next h1 HB2.out
set_option maxHeartbeats 4000000 in
set_option maxRecDepth 100000 in
theorem wn_from (w : World) (Wd D : Int) (E V : Nat) (h : CfgO Wd E V D) (hmx : Wd ≤ 9223372036854775807) :
    Calls Tryz.prog 17 #[.agg #[.int .i64 Wd, .int .i64 (E : Int), .int .i64 (V : Int), .int .i64 D], .int .u64 0] w (WnNw w Wd E V D) := by
  have HB : Hid (Below w.heap.size w (w.alloc (.cells #[.int .i64 Wd, .int .i64 (E : Int), .int .i64 (V : Int), .int .i64 D] 23))) := bel_alloc w _
  have HX := Lib.hid (Blk.new w 23 [.int .i64 Wd, .int .i64 (E : Int), .int .i64 (V : Int), .int .i64 D])
  simp only [List.toArray] at HX
  have hd : decide (CfgO Wd E V D) = true := decide_eq_true h
  have HIC := fun W1 => wn_isConfig W1 Wd E V D
  rw [hd] at HIC
  replace HIC := Lib.hid HIC
  have HCF : Hid ((1 ≤ Wd ∧ Wd ≤ 9223372036854775807) ∧ (1 ≤ E ∧ E ≤ 16384) ∧ 2 ≤ V ∧ V ≤ 4096) := by
    obtain ⟨h1, h2, h3, h4, h5, _⟩ := h
    show _ ∧ _ ∧ _
    omega
  have hbd : ∀ W, (Instr.build 56 #[(0, .agg #[.int .i64 Wd, .int .i64 (E : Int), .int .i64 (V : Int), .int .i64 D]), (5, .int .u64 0), (6, .int .u64 0)]).run Tryz.prog W = .ok (.agg #[.int .i64 Wd, .int .i64 (E : Int), .int .i64 (V : Int), .int .i64 D, .pointer none, .pointer none, .pointer none, .pointer none, .int .u64 0, .int .u64 0]) W := fun W => by kernel_rfl
  have hbe : ∀ W, (Instr.build 84 #[]).run Tryz.prog W = .ok (.agg #[.int .i64 0, .int .i64 0, .int .i64 0, .int .i64 0]) W := fun W => by kernel_rfl
  have hne : ∀ W, (binOp .neq 84 (.agg #[.int .i64 0, .int .i64 0, .int .i64 0, .int .i64 0]) (.agg #[.int .i64 0, .int .i64 0, .int .i64 0, .int .i64 0])).run Tryz.prog W = .ok (.bool false) W := fun W => by kernel_rfl
  clear h hd hmx
  go_enter Tryz.func17, Tryz.ntmps17
  go_upto_region 1 with fail
  generalize hw1 : w.alloc (.cells #[.int .i64 Wd, .int .i64 (E : Int), .int .i64 (V : Int), .int .i64 D] 23) = w1 at *
  generalize hz : w.heap.size = z at *
  have c0 := HX.out.cell (i := 0) rfl
  have c1 := HX.out.cell (i := 1) rfl
  have c2 := HX.out.cell (i := 2) rfl
  have c3 := HX.out.cell (i := 3) rfl
  have HI1 := Lib.hid (HIC.out w1)
  go_upto_region 4 with (go_at_call 39; refine HI1.out.mono ?_; rintro e w2 ⟨rfl, hb⟩; have HB2 := Lib.hid hb; clear hb)
  clear c0 c1 c2 c3 HI1 HIC hw1
  have HXW := Lib.hid (HX.out.below HB2.out HX.out.lt)
  have HBW : Hid (Below z w w2) := by
    show Below _ _ _
    have h1 := HB.out
    rw [← hz] at h1 ⊢
    exact bel_next h1 HB2.out
  have HEB := Lib.hid (Blk.new w2 84 [.int .i64 0, .int .i64 0, .int .i64 0, .int .i64 0])
  have HX3 := Lib.hid (HXW.out.below (bel_alloc w2 (.cells #[.int .i64 0, .int .i64 0, .int .i64 0, .int .i64 0] 84)) HXW.out.lt)
  have HB3 : Hid (Below z w (w2.alloc (.cells #[.int .i64 0, .int .i64 0, .int .i64 0, .int .i64 0] 84))) := HBW.out.alloc (by rw [← hz]; exact HBW.out.size) _
  have HZE : Hid (z < w2.heap.size) := HXW.out.lt
  simp only [List.toArray] at HEB
  clear HXW HBW HB2 HB HX
  generalize w2.alloc (.cells #[.int .i64 0, .int .i64 0, .int .i64 0, .int .i64 0] 84) = w3 at *
  generalize w2.heap.size = eb at *
  have c0 := HX3.out.cell (i := 0) rfl
  have c1 := HX3.out.cell (i := 1) rfl
  have c2 := HX3.out.cell (i := 2) rfl
  have c3 := HX3.out.cell (i := 3) rfl
  go_upto_region 5 with fail
  have HF4 : Hid (FrB w z eb w3.heap.size Wd D E V [.int .i64 Wd, .int .i64 (E : Int), .int .i64 (V : Int), .int .i64 D, .pointer none, .pointer none, .pointer none, .pointer none, .int .u64 0, .int .u64 0] (w3.alloc (.cells #[.int .i64 Wd, .int .i64 (E : Int), .int .i64 (V : Int), .int .i64 D, .pointer none, .pointer none, .pointer none, .pointer none, .int .u64 0, .int .u64 0] 56))) := by
    have h3 := HB3.out
    have hbl := bel_alloc w3 (.cells #[.int .i64 Wd, .int .i64 (E : Int), .int .i64 (V : Int), .int .i64 D, .pointer none, .pointer none, .pointer none, .pointer none, .int .u64 0, .int .u64 0] 56)
    have hs := h3.size
    rw [← hz] at h3
    refine ⟨⟨Blk.new w3 _ [_, _, _, _, _, _, _, _, _, _], bel_next h3 hbl, ?_⟩, HX3.out.below hbl HX3.out.lt, HEB.out.below hbl HEB.out.lt, Nat.le_of_eq hz, HZE.out, HEB.out.lt⟩
    exact h3.size
  clear c0 c1 c2 c3 HX3 HEB HB3 HZE hbd
  generalize w3.alloc (.cells #[.int .i64 Wd, .int .i64 (E : Int), .int .i64 (V : Int), .int .i64 D, .pointer none, .pointer none, .pointer none, .pointer none, .int .u64 0, .int .u64 0] 56) = W4 at *
  generalize w3.heap.size = c at *
  obtain ⟨⟨c0, c1, c2, c3⟩, _, _, _⟩ := HF4.out.cells
  have HCN := Lib.hid (clk_new W4 Wd HCF.out.1.2)
  have HO4 : Hid (c < W4.heap.size ∧ eb < W4.heap.size) := ⟨HF4.out.wp.box.lt, HF4.out.be.lt⟩
  go_upto_region 6 with (go_at_call 40; refine HCN.out.mono ?_; rintro e w5 hpo; obtain ⟨cp, rfl, hco, hcs⟩ := hpo.ok HCF.out.1.1; have HF5 := Lib.hid (HF4.out.up hpo.bel); have HCO := Lib.hid hco; have HCS : Hid (W4.heap.size ≤ cp ∧ cp < w5.heap.size) := ⟨hcs, hco.box.lt⟩; obtain ⟨d1, ⟨e0, e1, e2, e3⟩, fe, fc⟩ := HF5.out.cells; have fe0 := fe 0; have fc4 := fc 4; have d4 := HF5.out.wp.box.cell (i := 4) rfl; clear hpo hco hcs d1 fe fc)
  clear c0 c1 c2 c3 e0 e1 e2 e3 fe0 fc4 d4 HCN
  have HF6 := Lib.hid (HF5.out.set 4 0 (.pointer (some ⟨cp, 0, none⟩)) rfl)
  have HK6 := Lib.hid (clko_mod2 (j := 0) (v := .int .i64 0) (c := eb) (clko_mod2 (j := 4) (v := .pointer (some ⟨cp, 0, none⟩)) (c := c) HCO.out (by have := HCS.out; have := HO4.out; omega)) (by have := HCS.out; have := HO4.out; omega))
  have HS6 : Hid (((w5.setCell ⟨c, 4, none⟩ (.pointer (some ⟨cp, 0, none⟩))).setCell ⟨eb, 0, none⟩ (.int .i64 0)).heap.size = w5.heap.size) := by show _ = _; rw [World.size_setCell, World.size_setCell]
  generalize hW6 : (w5.setCell ⟨c, 4, none⟩ (.pointer (some ⟨cp, 0, none⟩))).setCell ⟨eb, 0, none⟩ (.int .i64 0) = W6 at *
  clear hW6 HF5 HCO HF4
  obtain ⟨⟨c0, c1, c2, c3⟩, _, _, _⟩ := HF6.out.cells
  have HSN := Lib.hid (st_from W6 V E 0 HCF.out.2.2.2 HCF.out.2.1.2 (by omega))
  go_upto_region 7 with (go_at_call 41; refine HSN.out.mono ?_; rintro e w7 hpo; obtain ⟨sp, g', he, hsm, hsl, r1, r2, r3, r4, hsf, hss⟩ := hpo.ex; subst he; have hb := hpo.bel; have HF7 := Lib.hid (HF6.out.up hb); have HK7 := Lib.hid (HK6.out.below hb); have HSI := Lib.hid (sgi_mk hsm hsf); have HSL := Lib.hid (hsl.tight (fun k => g'.FA k ∧ k < w7.heap.size) (fun k => g'.FT k ∧ k < w7.heap.size)); have HSE : Hid (g'.V = V ∧ g'.E = E ∧ g'.last = 0 ∧ g'.Lv = fun _ => False) := ⟨r1, r2, r3, r4⟩; have HZ7 : Hid (W6.heap.size ≤ w7.heap.size) := hb.size; obtain ⟨d1, ⟨e0, e1, e2, e3⟩, fe, fc⟩ := HF7.out.cells; have fe0 := fe 1; have fc4 := fc 5; have d4 := HF7.out.wp.box.cell (i := 5) rfl; clear hpo hb hsm hsl hsf hss r1 r2 r3 r4 d1 fe fc)
  clear c0 c1 c2 c3 e0 e1 e2 e3 fe0 fc4 d4 HSN
  have HF8 := Lib.hid (HF7.out.set 5 1 (.pointer (some ⟨sp, 0, none⟩)) rfl)
  have HK8 := Lib.hid (clko_mod2 (j := 1) (v := .int .i64 0) (c := eb) (clko_mod2 (j := 5) (v := .pointer (some ⟨sp, 0, none⟩)) (c := c) HK7.out (by have := HCS.out; have := HO4.out; omega)) (by have := HCS.out; have := HO4.out; omega))
  have HI8 := Lib.hid (sgi_mod (j := 1) (v := .int .i64 0) (c := eb) (sgi_mod (j := 5) (v := .pointer (some ⟨sp, 0, none⟩)) (c := c) HSI.out (by have := HS6.out; have := HCS.out; have := HO4.out; omega)) (by have := HS6.out; have := HCS.out; have := HO4.out; omega))
  have HS8 : Hid (((w7.setCell ⟨c, 5, none⟩ (.pointer (some ⟨sp, 0, none⟩))).setCell ⟨eb, 1, none⟩ (.int .i64 0)).heap.size = w7.heap.size) := by show _ = _; rw [World.size_setCell, World.size_setCell]
  generalize hW8 : (w7.setCell ⟨c, 5, none⟩ (.pointer (some ⟨sp, 0, none⟩))).setCell ⟨eb, 1, none⟩ (.int .i64 0) = W8 at *
  clear hW8 HF7 HK7 HSI HF6 HK6
  obtain ⟨⟨c0, c1, c2, c3⟩, _, _, _⟩ := HF8.out.cells
  have HEN := Lib.hid (enew_ok E W8 (by have := HCF.out.2.1.2; omega))
  go_upto_region 8 with (go_at_call 42; refine HEN.out.mono ?_; rintro e w9 hpo; obtain ⟨ep, qp, qg, heo, hef, hes, he⟩ := hpo.out; subst he; have hb := hpo.bel; have HF9 := Lib.hid (HF8.out.up hb); have HK9 := Lib.hid (HK8.out.below hb); have HI9 := Lib.hid (sgi_up HI8.out hb); have HEI := Lib.hid (egi_mk (EFresh.mk heo hb hef hes)); have HZ9 : Hid (W8.heap.size ≤ w9.heap.size) := hb.size; obtain ⟨d1, ⟨e0, e1, e2, e3⟩, fe, fc⟩ := HF9.out.cells; have fe0 := fe 2; have fc4 := fc 6; have d4 := HF9.out.wp.box.cell (i := 6) rfl; clear hpo hb heo hef hes d1 fe fc)
  clear c0 c1 c2 c3 e0 e1 e2 e3 fe0 fc4 d4 HEN
  have HF10 := Lib.hid (HF9.out.set 6 2 (.pointer (some ⟨ep, 0, none⟩)) rfl)
  have HK10 := Lib.hid (clko_mod2 (j := 2) (v := .int .i64 0) (c := eb) (clko_mod2 (j := 6) (v := .pointer (some ⟨ep, 0, none⟩)) (c := c) HK9.out (by have := HCS.out; have := HO4.out; omega)) (by have := HCS.out; have := HO4.out; omega))
  have HI10 := Lib.hid (sgi_mod (j := 2) (v := .int .i64 0) (c := eb) (sgi_mod (j := 6) (v := .pointer (some ⟨ep, 0, none⟩)) (c := c) HI9.out (by have := HS6.out; have := HCS.out; have := HO4.out; omega)) (by have := HS6.out; have := HCS.out; have := HO4.out; omega))
  have HE10 := Lib.hid (egi_mod (j := 2) (v := .int .i64 0) (c := eb) (egi_mod (j := 6) (v := .pointer (some ⟨ep, 0, none⟩)) (c := c) HEI.out (by have := HS6.out; have := HCS.out; have := HO4.out; have := HS8.out; have := HZ7.out; omega)) (by have := HS6.out; have := HCS.out; have := HO4.out; have := HS8.out; have := HZ7.out; omega))
  have HS10 : Hid (((w9.setCell ⟨c, 6, none⟩ (.pointer (some ⟨ep, 0, none⟩))).setCell ⟨eb, 2, none⟩ (.int .i64 0)).heap.size = w9.heap.size) := by show _ = _; rw [World.size_setCell, World.size_setCell]
  generalize hW10 : (w9.setCell ⟨c, 6, none⟩ (.pointer (some ⟨ep, 0, none⟩))).setCell ⟨eb, 2, none⟩ (.int .i64 0) = W10 at *
  clear hW10 HF9 HK9 HI9 HEI HF8 HK8 HI8
  obtain ⟨⟨c0, c1, c2, c3⟩, _, _, _⟩ := HF10.out.cells
  have HFN := Lib.hid (fo_new W10 V E HCF.out.2.2.2 HCF.out.2.1.2)
  go_upto_region 9 with (go_at_call 43; refine HFN.out.mono ?_; rintro e w11 hpo; obtain ⟨fp, f', he, hfm, hfp, r1, r2, r3, hff, _⟩ := hpo.ex; subst he; have hb := hpo.bel; have HF11 := Lib.hid (HF10.out.up hb); have HK11 := Lib.hid (HK10.out.below hb); have HI11 := Lib.hid (sgi_up HI10.out hb); have HE11 := Lib.hid (egi_up HE10.out hb); have HFI := Lib.hid (fgi_mk hfm hff); have HFP := Lib.hid hfp; have HFE : Hid (f'.V = V ∧ f'.S = E ∧ f'.Q = []) := ⟨r1, r2, r3⟩; obtain ⟨d1, ⟨e0, e1, e2, e3⟩, fe, fc⟩ := HF11.out.cells; have fe0 := fe 3; have fc4 := fc 7; have d4 := HF11.out.wp.box.cell (i := 7) rfl; clear hpo hb hfm hfp hff r1 r2 r3 d1 fe fc)
  clear c0 c1 c2 c3 e0 e1 e2 e3 fe0 fc4 d4 HFN
  have HF12 := Lib.hid (HF11.out.set 7 3 (.pointer (some ⟨fp, 0, none⟩)) rfl)
  have HK12 := Lib.hid (clko_mod2 (j := 3) (v := .int .i64 0) (c := eb) (clko_mod2 (j := 7) (v := .pointer (some ⟨fp, 0, none⟩)) (c := c) HK11.out (by have := HCS.out; have := HO4.out; omega)) (by have := HCS.out; have := HO4.out; omega))
  have HI12 := Lib.hid (sgi_mod (j := 3) (v := .int .i64 0) (c := eb) (sgi_mod (j := 7) (v := .pointer (some ⟨fp, 0, none⟩)) (c := c) HI11.out (by have := HS6.out; have := HCS.out; have := HO4.out; omega)) (by have := HS6.out; have := HCS.out; have := HO4.out; omega))
  have HE12 := Lib.hid (egi_mod (j := 3) (v := .int .i64 0) (c := eb) (egi_mod (j := 7) (v := .pointer (some ⟨fp, 0, none⟩)) (c := c) HE11.out (by have := HS6.out; have := HCS.out; have := HO4.out; have := HS8.out; have := HZ7.out; omega)) (by have := HS6.out; have := HCS.out; have := HO4.out; have := HS8.out; have := HZ7.out; omega))
  have HG12 := Lib.hid (fgi_mod (j := 3) (v := .int .i64 0) (c := eb) (fgi_mod (j := 7) (v := .pointer (some ⟨fp, 0, none⟩)) (c := c) HFI.out (by have := HS6.out; have := HCS.out; have := HO4.out; have := HS8.out; have := HZ7.out; have := HS10.out; have := HZ9.out; omega)) (by have := HS6.out; have := HCS.out; have := HO4.out; have := HS8.out; have := HZ7.out; have := HS10.out; have := HZ9.out; omega))
  generalize hW12 : (w11.setCell ⟨c, 7, none⟩ (.pointer (some ⟨fp, 0, none⟩))).setCell ⟨eb, 3, none⟩ (.int .i64 0) = W12 at *
  clear hW12 HF11 HK11 HI11 HE11 HFI HF10 HK10 HI10 HE10
  obtain ⟨_, ⟨e0, e1, e2, e3⟩, _, _⟩ := HF12.out.cells
  rw [HS8.out] at HE12
  rw [HS10.out] at HG12
  have HFIN := Lib.hid (wn_made HCF.out.1 HCF.out.2.1 HCF.out.2.2 HF12.out.wp HK12.out HI12.out HE12.out HG12.out (by have := HS6.out; have := HCS.out; have := HO4.out; omega) ⟨HZ7.out, by have := HS8.out; have := HZ9.out; omega⟩ HSL.out HSE.out HFP.out HFE.out)
  go_wp2_with fail
  go_ret2
  exact HFIN.out
end Go.Proofs.YtlooaipipmiijaaGreat

namespace Go.Proofs.YtlooaipipmiijaaGreat
set_option linter.unusedVariables false
set_option linter.unusedSimpArgs false
open Go.RowKit
set_option maxHeartbeats 1000000 in
theorem wn_new_bad (w : World) (W E V D : Int) (h : ¬ CfgO W E V D) :
    Calls Tryz.prog 5 #[.agg #[.int .i64 W, .int .i64 E, .int .i64 V, .int .i64 D]] w (RetB (.tuple #[.pointer none, .int .i64 2]) w) := by
  have HB : Hid (Below w.heap.size w (w.alloc (.cells #[.int .i64 W, .int .i64 E, .int .i64 V, .int .i64 D] 23))) := bel_alloc w _
  have HX := Lib.hid (Blk.new w 23 [.int .i64 W, .int .i64 E, .int .i64 V, .int .i64 D])
  simp only [List.toArray] at HX
  have HF := Lib.hid (fun W1 => wn_from_bad W1 W E V D h)
  clear h
  go_enter Tryz.func5, Tryz.ntmps5
  go_upto_region 1 with fail
  generalize hw1 : w.alloc (.cells #[.int .i64 W, .int .i64 E, .int .i64 V, .int .i64 D] 23) = w1 at *
  generalize hz : w.heap.size = z at *
  have c0 := HX.out.cell (i := 0) rfl
  have c1 := HX.out.cell (i := 1) rfl
  have c2 := HX.out.cell (i := 2) rfl
  have c3 := HX.out.cell (i := 3) rfl
  have HI1 := Lib.hid (HF.out w1)
  go_wp2_with (go_at_call 17; refine HI1.out.mono ?_; rintro e w2 ⟨rfl, hb⟩; have HB2 := Lib.hid hb; clear hb)
  go_ret2
  refine ⟨rfl, ?_⟩
  have h1 := HB.out
  rw [← hz] at h1
  exact bel_next h1 HB2.out
theorem WnNw.lift {w w1 w2 : World} {W D : Int} {E V : Nat} {e : Ending} (h : WnNw w1 W E V D e w2) (hb : Below w.heap.size w w1) : WnNw w W E V D e w2 := by
  obtain ⟨⟨b, G, h1, h2, h3, h4, h5⟩, h6⟩ := h
  exact ⟨⟨b, G, h1, h2, h3, h4, fun k hk => Nat.le_trans hb.size (h5 k hk)⟩, bel_next hb h6⟩
set_option maxHeartbeats 1000000 in
theorem wn_new (w : World) (Wd D : Int) (E V : Nat) (h : CfgO Wd E V D) (hmx : Wd ≤ 9223372036854775807) :
    Calls Tryz.prog 5 #[.agg #[.int .i64 Wd, .int .i64 (E : Int), .int .i64 (V : Int), .int .i64 D]] w (WnNw w Wd E V D) := by
  have HB : Hid (Below w.heap.size w (w.alloc (.cells #[.int .i64 Wd, .int .i64 (E : Int), .int .i64 (V : Int), .int .i64 D] 23))) := bel_alloc w _
  have HX := Lib.hid (Blk.new w 23 [.int .i64 Wd, .int .i64 (E : Int), .int .i64 (V : Int), .int .i64 D])
  simp only [List.toArray] at HX
  have HF := Lib.hid (fun W1 => wn_from W1 Wd D E V h hmx)
  clear h hmx
  go_enter Tryz.func5, Tryz.ntmps5
  go_upto_region 1 with fail
  generalize hw1 : w.alloc (.cells #[.int .i64 Wd, .int .i64 (E : Int), .int .i64 (V : Int), .int .i64 D] 23) = w1 at *
  generalize hz : w.heap.size = z at *
  have c0 := HX.out.cell (i := 0) rfl
  have c1 := HX.out.cell (i := 1) rfl
  have c2 := HX.out.cell (i := 2) rfl
  have c3 := HX.out.cell (i := 3) rfl
  have HI1 := Lib.hid (HF.out w1)
  go_wp2_with (go_at_call 17; refine HI1.out.mono ?_; rintro e w2 hpo; have hq := hpo.ex; obtain ⟨b, G, he, _⟩ := hq; subst he; have HPO := Lib.hid hpo; clear hpo)
  go_ret2
  refine HPO.out.lift ?_
  have h1 := HB.out
  rw [← hz] at h1
  exact h1
def conB (all : List Rcd) (u v : Nat) : Bool := decide ((u ∈ idsL all ∧ v ∈ idsL all) ∧ v ∈ rchL all u MINT)
def conE (all : List Rcd) (u v : Nat) : Int := if u ∈ idsL all ∧ v ∈ idsL all then 0 else 13
def unB (all : List Rcd) (u v : Nat) : Bool := conB all u v && decide (u ≠ v)
def unT (W : Int) (all : List Rcd) (u v : Nat) : Int := if unB all u v = true then bestL all u v + W else 0
section
variable {w : World} {b : Nat} {G : WnG} {all : List Rcd}
theorem rd_connected (h : WnM w b G) (hl : WnL G all) (u v : Nat) : Calls Tryz.prog 13 #[.pointer (some ⟨b, 0, none⟩), .int .u64 (u : Int), .int .u64 (v : Int)] w (WnRt w b G (.tuple #[.bool (conB all u v), .int .i64 (conE all u v)])) := by
  obtain ⟨ge, F, he⟩ := hl.ed
  by_cases c : u ∈ idsL all ∧ v ∈ idsL all
  · obtain ⟨i, hi, i1, i2⟩ := hl.known he c.1
    obtain ⟨j, hj, j1, j2⟩ := hl.known he c.2
    refine (wn_connected w b G h he u v i j hi hj).mono ?_
    rintro e w' ⟨⟨x, rfl, hx⟩, hst⟩
    refine ⟨?_, hst⟩
    have e1 : conE all u v = 0 := if_pos c
    have e2 : x = conB all u v := by
      unfold conB
      rw [hl.conn he i1 j1, i2, j2] at hx
      cases x
      · refine (decide_eq_false fun k => ?_).symm
        exact absurd (hx.2 k.2) (by decide)
      · exact (decide_eq_true ⟨c, hx.1 rfl⟩).symm
    rw [e1, e2]
  · have hn : (gix G.g.LvT G.g.D u).isSome = false ∨ (gix G.g.LvT G.g.D v).isSome = false := by
      by_cases d : u ∈ idsL all
      · exact .inr (hl.unknown he fun k => c ⟨d, k⟩)
      · exact .inl (hl.unknown he d)
    have e1 : conE all u v = 13 := if_neg c
    have e2 : conB all u v = false := decide_eq_false fun k => c k.1
    rw [e1, e2]
    exact wn_connected_no w b G h u v hn
theorem rd_until (h : WnM w b G) (hl : WnL G all) (u v : Nat) : Calls Tryz.prog 10 #[.pointer (some ⟨b, 0, none⟩), .int .u64 (u : Int), .int .u64 (v : Int)] w (WnRt w b G (.tuple #[.int .i64 (unT G.W all u v), .bool (unB all u v), .int .i64 (conE all u v)])) := by
  obtain ⟨ge, F, he⟩ := hl.ed
  by_cases c : u ∈ idsL all ∧ v ∈ idsL all
  · obtain ⟨i, hi, i1, i2⟩ := hl.known he c.1
    obtain ⟨j, hj, j1, j2⟩ := hl.known he c.2
    refine (wn_until w b G h he u v i j hi hj).mono ?_
    rintro e w' ⟨hy, hno, hst⟩
    refine ⟨?_, hst⟩
    have e1 : conE all u v = 0 := if_pos c
    have hcb : conB all u v = true ↔ Rch (Lnk ge G.g.Lv) i j := by
      unfold conB
      rw [decide_eq_true_eq, hl.conn he i1 j1, i2, j2]
      exact ⟨fun k => k.2, fun k => ⟨c, k⟩⟩
    have hij : i = j ↔ u = v := ⟨fun k => by rw [← i2, ← j2, k], fun k => he.stl.ids.inj _ _ i1 j1 (by rw [i2, j2, k])⟩
    by_cases d : i ≠ j ∧ Rch (Lnk ge G.g.Lv) i j
    · obtain ⟨ex, rfl, hm, h1, h2⟩ := hy d.1 d.2
      have e3 := hl.best he i1 j1 hm h1 h2
      rw [i2, j2] at e3
      have e2 : unB all u v = true := by
        unfold unB
        rw [hcb.2 d.2, decide_eq_true (show u ≠ v from fun k => d.1 (hij.2 k))]; rfl
      have e4 : unT G.W all u v = ex := by unfold unT; rw [if_pos e2, ← e3]
      rw [e1, e2, e4]
    · have hd : i = j ∨ ¬ Rch (Lnk ge G.g.Lv) i j := by
        by_cases k : i = j
        · exact .inl k
        · exact .inr fun k2 => d ⟨k, k2⟩
      have e2 : unB all u v = false := by
        unfold unB
        rcases hd with k | k
        · rw [decide_eq_false (show ¬ u ≠ v from fun f => f (hij.1 k)), Bool.and_false]
        · rw [Bool.eq_false_iff.2 (fun f => k (hcb.1 f)), Bool.false_and]
      have e4 : unT G.W all u v = 0 := by unfold unT; rw [if_neg (by rw [e2]; decide)]
      rw [e1, e2, e4]
      exact hno hd
  · have hn : (gix G.g.LvT G.g.D u).isSome = false ∨ (gix G.g.LvT G.g.D v).isSome = false := by
      by_cases d : u ∈ idsL all
      · exact .inr (hl.unknown he fun k => c ⟨d, k⟩)
      · exact .inl (hl.unknown he d)
    have e1 : conE all u v = 13 := if_neg c
    have e0 : conB all u v = false := decide_eq_false fun k => c k.1
    have e2 : unB all u v = false := by unfold unB; rw [e0]; rfl
    have e4 : unT G.W all u v = 0 := by unfold unT; rw [if_neg (by rw [e2]; decide)]
    rw [e1, e2, e4]
    exact wn_until_no w b G h u v hn
end
end Go.Proofs.YtlooaipipmiijaaGreat

namespace Go.Proofs.YtlooaipipmiijaaGreat
set_option linter.unusedVariables false
set_option linter.unusedSimpArgs false
open Go.RowKit
def idV (l : List Nat) : List Value := l.map fun (x : Nat) => .int .u64 (x : Int)
theorem idV_snoc (l : List Nat) (x : Nat) : idV (l ++ [x]) = idV l ++ [.int .u64 (x : Int)] := by unfold idV; rw [List.map_append]; rfl
def encC (r : Rcd) : List Value := [.int .u64 (r.u : Int), .int .u64 (r.v : Int), .int .i64 r.wt, .int .i64 r.t]
def rcV (l : List Rcd) : List Value := encs encC l
theorem rcV_snoc (l : List Rcd) (r : Rcd) : rcV (l ++ [r]) = rcV l ++ encC r := by
  unfold rcV encs
  rw [List.flatMap_append, List.flatMap_singleton]
end Go.Proofs.YtlooaipipmiijaaGreat

namespace Go.Proofs.YtlooaipipmiijaaGreat
set_option linter.unusedVariables false
set_option linter.unusedSimpArgs false
open Go.RowKit
theorem Tryz.infoU64S : (Tryz.prog.info? 25).map (fun i => (i.zero, i.size, i.bytes)) = some (some (.int .u64 0), 1, 8) := by kernel_rfl
structure IdB (w : World) (v : Value) (o : List Nat) (W : World) : Prop where
  own : W.ownsRow 0 25 1 v o.length (idV o)
  new : ∀ q, v.ownBlock = some q → w.heap.size ≤ q
  bel : Below w.heap.size w W
theorem IdB.nil (w : World) : IdB w (.slice none 0 0) [] w := ⟨World.ownsRow_nil _ _ _ _, fun q e => by simp [Value.ownBlock] at e, Below.refl _ _⟩
theorem IdB.app {w W w5 : World} {ao ao2 : Option Addr} {cp cp2 : Nat} {o : List Nat} {x : Nat} {T : TypeId} (h : IdB w (.slice ao o.length cp) o W) (ho : w5.ownsRow 0 25 1 (.slice ao2 (o.length + 1) cp2) (o.length + 1) (idV o ++ [.int .u64 (x : Int)])) (hg : (W.alloc (.cells #[.int .u64 (x : Int)] T)).grownBy w5 (Value.slice ao o.length cp).ownBlock) (hk : ∀ k, (Value.slice ao2 (o.length + 1) cp2).ownBlock = some k → (Value.slice ao o.length cp).ownBlock = some k ∨ (W.alloc (.cells #[.int .u64 (x : Int)] T)).heap.size ≤ k) : IdB w (.slice ao2 (o ++ [x]).length cp2) (o ++ [x]) w5 := by
  have e1 : (o ++ [x]).length = o.length + 1 := by simp
  have hs := h.bel.size
  refine ⟨?_, fun q e => ?_, ?_⟩
  · rw [e1, idV_snoc]; exact ho
  · rw [e1] at e
    rcases hk q e with c | c
    · exact h.new q c
    · rw [World.alloc, Array.size_push] at c
      omega
  · exact (h.bel.alloc hs (.cells #[.int .u64 (x : Int)] T)).grown hg (by rw [World.alloc, Array.size_push]; omega) fun q e => h.new q e
theorem IdB.slice {w W : World} {v : Value} {o : List Nat} (h : IdB w v o W) : ∃ ao cp, v = .slice ao o.length cp := by
  rcases h.own.2 with ⟨rfl, h0⟩ | ⟨g, cap, cur, rfl, _⟩
  · exact ⟨none, 0, by rw [h0]⟩
  · exact ⟨_, _, rfl⟩
end Go.Proofs.YtlooaipipmiijaaGreat

namespace Go.Proofs.YtlooaipipmiijaaGreat
set_option linter.unusedVariables false
set_option linter.unusedSimpArgs false
open Go.RowKit
structure RcB (w : World) (v : Value) (o : List Rcd) (W : World) : Prop where
  own : W.ownsRow 0 33 4 v o.length (rcV o)
  new : ∀ q, v.ownBlock = some q → w.heap.size ≤ q
  bel : Below w.heap.size w W
theorem RcB.nil (w : World) : RcB w (.slice none 0 0) [] w := ⟨World.ownsRow_nil _ _ _ _, fun q e => by simp [Value.ownBlock] at e, Below.refl _ _⟩
theorem RcB.app {w W w5 : World} {ao ao2 : Option Addr} {cp cp2 : Nat} {o : List Rcd} {x : Rcd} {T : TypeId} (h : RcB w (.slice ao o.length cp) o W) (ho : w5.ownsRow 0 33 4 (.slice ao2 (o.length + 1) cp2) (o.length + 1) (rcV o ++ encC x)) (hg : (W.alloc (.cells (encC x).toArray T)).grownBy w5 (Value.slice ao o.length cp).ownBlock) (hk : ∀ k, (Value.slice ao2 (o.length + 1) cp2).ownBlock = some k → (Value.slice ao o.length cp).ownBlock = some k ∨ (W.alloc (.cells (encC x).toArray T)).heap.size ≤ k) : RcB w (.slice ao2 (o ++ [x]).length cp2) (o ++ [x]) w5 := by
  have e1 : (o ++ [x]).length = o.length + 1 := by simp
  have hs := h.bel.size
  refine ⟨?_, fun q e => ?_, ?_⟩
  · rw [e1, rcV_snoc]; exact ho
  · rw [e1] at e
    rcases hk q e with c | c
    · exact h.new q c
    · rw [World.alloc, Array.size_push] at c
      omega
  · exact (h.bel.alloc hs (.cells (encC x).toArray T)).grown hg (by rw [World.alloc, Array.size_push]; omega) fun q e => h.new q e
theorem RcB.slice {w W : World} {v : Value} {o : List Rcd} (h : RcB w v o W) : ∃ ao cp, v = .slice ao o.length cp := by
  rcases h.own.2 with ⟨rfl, h0⟩ | ⟨g, cap, cur, rfl, _⟩
  · exact ⟨none, 0, by rw [h0]⟩
  · exact ⟨_, _, rfl⟩
theorem RcB.after {w0 w W : World} {v : Value} {o : List Rcd} (h : RcB w v o W) (hb : Below w0.heap.size w0 w) : RcB w0 v o W := ⟨h.own, fun q e => Nat.le_trans hb.size (h.new q e), hb.trans (h.bel.mono hb.size)⟩
theorem RcB.drewN {w W : World} {v : Value} {o : List Rcd} (h : RcB w v o W) (n : Nat) : RcB w v o (W.drewN n) := ⟨h.own, h.new, ⟨h.bel.os, h.bel.tape, h.bel.output, h.bel.size, h.bel.block⟩⟩
theorem Tryz.infoRec : (Tryz.prog.info? 33).map (fun i => (i.zero, i.size, i.bytes)) = some (some (.agg #[.int .u64 0, .int .u64 0, .int .i64 0, .int .i64 0]), 4, 32) := by kernel_rfl
end Go.Proofs.YtlooaipipmiijaaGreat

namespace Go.Proofs.YtlooaipipmiijaaGreat
set_option linter.unusedVariables false
set_option linter.unusedSimpArgs false
open Go.RowKit
structure WnFr (w0 : World) (b : Nat) (G : WnG) (all : List Rcd) (w : World) : Prop where
  mem : WnM w b G
  wl : WnL G all
  ff : ∀ k, G.foot b k → w0.heap.size ≤ k
  bel : Below w0.heap.size w0 w
theorem WnFr.step {w0 w w' : World} {b : Nat} {G G' : WnG} {all all' : List Rcd} (h : WnFr w0 b G all w) (s : WnS b G w G' w') (hl : WnL G' all') : WnFr w0 b G' all' w' := by
  refine ⟨s.mem, hl, fun k hk => ?_, h.bel.trans (s.mod.below h.bel.size h.ff)⟩
  rcases s.ft k hk with a | a
  · exact h.ff k a
  · have := h.bel.size; omega
theorem WnFr.quiet {w0 w w' : World} {b : Nat} {G : WnG} {all : List Rcd} (h : WnFr w0 b G all w) (s : WnV b G w w') : ∃ col, WnS b G w { G with col := col } w' ∧ WnFr w0 b { G with col := col } all w' := by
  obtain ⟨col, s⟩ := s
  exact ⟨col, s, h.step s (h.wl.col col)⟩
theorem WnFr.below {w0 w w' : World} {b : Nat} {G : WnG} {all : List Rcd} (h : WnFr w0 b G all w) (hb : Below w.heap.size w w') : WnFr w0 b G all w' := h.step ((WnS.refl h.mem).below hb) h.wl
theorem WnNw.fr {w w' : World} {W D : Int} {E V b : Nat} {G : WnG} (h2 : WnM w' b G) (h3 : WnL G []) (h5 : ∀ k, G.foot b k → w.heap.size ≤ k) (hb : Below w.heap.size w w') : WnFr w b G [] w' := ⟨h2, h3, h5, hb⟩
set_option maxHeartbeats 1000000 in
theorem tp_small (w : World) (W E V D : Int) (ao : Option Addr) (n cp : Nat) :
    Calls Tryz.prog 6 #[.agg #[.int .i64 W, .int .i64 E, .int .i64 V, .int .i64 D], .slice ao n cp] w (RetB (.bool (decide (V ≤ 12 ∧ E ≤ 30 ∧ n ≤ 60))) w) := by
  have HB : Hid (Below w.heap.size w (w.alloc (.cells #[.int .i64 W, .int .i64 E, .int .i64 V, .int .i64 D] 23))) := bel_alloc w _
  have HX := Lib.hid (Blk.new w 23 [.int .i64 W, .int .i64 E, .int .i64 V, .int .i64 D])
  simp only [List.toArray] at HX
  go_enter Tryz.func6, Tryz.ntmps6
  go_upto_region 1 with fail
  generalize w.alloc (.cells #[.int .i64 W, .int .i64 E, .int .i64 V, .int .i64 D] 23) = w1 at *
  generalize hz : w.heap.size = z at *
  have c0 := HX.out.cell (i := 0) rfl
  have c1 := HX.out.cell (i := 1) rfl
  have c2 := HX.out.cell (i := 2) rfl
  have c3 := HX.out.cell (i := 3) rfl
  by_cases h0 : V ≤ 12
  · have t0 : decide (V ≤ (12 : Int)) = true := decide_eq_true h0
    by_cases h1 : E ≤ 30
    · have t1 : decide (E ≤ (30 : Int)) = true := decide_eq_true h1
      by_cases h2 : n ≤ 60
      · have t2 : decide ((n : Int) ≤ (60 : Int)) = true := decide_eq_true (by omega)
        have t3 : decide (n ≤ 60) = true := decide_eq_true h2
        have hd : decide (V ≤ 12 ∧ E ≤ 30 ∧ n ≤ 60) = true := decide_eq_true ⟨h0, h1, h2⟩
        go_wp2_with fail
        go_ret
        exact ⟨by first | rfl | (rw [hd]; rfl), by rw [hz]; exact HB.out⟩
      · have t2 : decide ((n : Int) ≤ (60 : Int)) = false := decide_eq_false (by omega)
        have t3 : decide (n ≤ 60) = false := decide_eq_false h2
        have hd : decide (V ≤ 12 ∧ E ≤ 30 ∧ n ≤ 60) = false := decide_eq_false fun c => h2 c.2.2
        go_wp2_with fail
        go_ret
        exact ⟨by first | rfl | (rw [hd]; rfl), by rw [hz]; exact HB.out⟩
    · have t1 : decide (E ≤ (30 : Int)) = false := decide_eq_false h1
      have hd : decide (V ≤ 12 ∧ E ≤ 30 ∧ n ≤ 60) = false := decide_eq_false fun c => h1 c.2.1
      go_wp2_with fail
      go_ret
      exact ⟨by first | rfl | (rw [hd]; rfl), by rw [hz]; exact HB.out⟩
  · have t0 : decide (V ≤ (12 : Int)) = false := decide_eq_false h0
    have hd : decide (V ≤ 12 ∧ E ≤ 30 ∧ n ≤ 60) = false := decide_eq_false fun c => h0 c.1
    go_wp2_with fail
    go_ret
    exact ⟨by first | rfl | (rw [hd]; rfl), by rw [hz]; exact HB.out⟩
theorem works_add {G : WnG} (h : G.W = 10 ∧ G.E = 4 ∧ G.V = 4 ∧ G.D = 0 ∧ G.now = 0 ∧ G.add = 0) : addE G [] ⟨1, 2, 0, 0⟩ = 0 := by
  obtain ⟨h1, h2, h3, _, h5, _⟩ := h
  unfold addE
  rw [h1, h2, h3, h5]
  decide
set_option maxHeartbeats 1000000 in
theorem tp_works (w : World) : Calls Tryz.prog 7 #[] w (RetB (.bool true) w) := by
  have HNW := Lib.hid (wn_new w 10 0 4 4 (by decide) (by decide))
  have hb1 : ∀ W, (Instr.build 23 #[(0, .int .i64 10), (1, .int .i64 4), (2, .int .i64 4)]).run Tryz.prog W = .ok (.agg #[.int .i64 10, .int .i64 4, .int .i64 4, .int .i64 0]) W := fun W => by kernel_rfl
  have hb2 : ∀ W, (Instr.build 33 #[(0, .int .u64 1), (1, .int .u64 2)]).run Tryz.prog W = .ok (.agg #[.int .u64 1, .int .u64 2, .int .i64 0, .int .i64 0]) W := fun W => by kernel_rfl
  go_enter Tryz.func7, Tryz.ntmps7
  go_upto_region 4 with (go_at_call 5; refine HNW.out.mono ?_; rintro e w1 hpo; obtain ⟨b, G, he, h2, h3, h4, h5⟩ := hpo.ex; subst he; have HF := Lib.hid (WnNw.fr (W := 10) (D := 0) (E := 4) (V := 4) h2 h3 h5 hpo.bel); have HG := Lib.hid h4; clear hpo h2 h3 h4 h5)
  have HA := Lib.hid (wn_add w1 b G [] HF.out.mem HF.out.wl 1 2 0 0 (by decide) (by decide) (by decide) (by have := HG.out.2.2.2.2.2; omega))
  go_upto_region 5 with (go_at_call 8; refine HA.out.mono ?_; rintro e w2 ⟨hv, G2, hs, _, _, hy, _⟩; have h0 := works_add HG.out; rw [h0] at hv; subst hv; have HF2 := Lib.hid (HF.out.step hs (hy h0).1); clear hs hy h0)
  have HC := rd_connected HF2.out.mem HF2.out.wl 1 2
  have ec : conB (stay G.W 0 [] ++ [⟨1, 2, 0, 0⟩]) 1 2 = true := by
    show conB [⟨1, 2, 0, 0⟩] 1 2 = true
    decide
  have ee : conE (stay G.W 0 [] ++ [⟨1, 2, 0, 0⟩]) 1 2 = 0 := by
    show conE [⟨1, 2, 0, 0⟩] 1 2 = 0
    decide
  rw [ec, ee] at HC
  replace HC := Lib.hid HC
  clear ec ee
  go_wp2_with (go_at_call 13; refine HC.out.mono ?_; rintro e w3 ⟨rfl, hst⟩; obtain ⟨col, _, hf⟩ := HF2.out.quiet hst; have HF3 := Lib.hid hf; clear hst hf)
  go_ret
  exact ⟨rfl, HF3.out.bel⟩
end Go.Proofs.YtlooaipipmiijaaGreat

namespace Go.Proofs.YtlooaipipmiijaaGreat
set_option linter.unusedVariables false
set_option linter.unusedSimpArgs false
open Go.RowKit
theorem min_time {t : Int} : ∀ l : List Rcd, (∃ q, q ∈ l ∧ t ≤ q.t) → ∃ q0, q0 ∈ l ∧ t ≤ q0.t ∧ ∀ q, q ∈ l → t ≤ q.t → q0.t ≤ q.t
  | [], ⟨_, h, _⟩ => absurd h List.not_mem_nil
  | a :: l, ⟨q, hq, ht⟩ => by
    by_cases c : ∃ q, q ∈ l ∧ t ≤ q.t
    · obtain ⟨q0, h1, h2, h3⟩ := min_time l c
      by_cases d : t ≤ a.t ∧ a.t < q0.t
      · refine ⟨a, List.mem_cons_self, d.1, fun x hx k => ?_⟩
        rcases List.mem_cons.1 hx with e | e
        · rw [e]; exact Int.le_refl _
        · have := h3 x e k; omega
      · refine ⟨q0, List.mem_cons_of_mem _ h1, h2, fun x hx k => ?_⟩
        rcases List.mem_cons.1 hx with e | e
        · rw [e] at k ⊢; omega
        · exact h3 x e k
    · have e : q = a := by
        rcases List.mem_cons.1 hq with e | e
        · exact e
        · exact absurd ⟨q, e, ht⟩ c
      subst e
      refine ⟨q, List.mem_cons_self, ht, fun x hx k => ?_⟩
      rcases List.mem_cons.1 hx with e | e
      · rw [e]; exact Int.le_refl _
      · exact absurd ⟨x, e, k⟩ c
theorem RL.mono {l : List Rcd} {s t : Int} (h : ∀ q, q ∈ l → s ≤ q.t → t ≤ q.t) : ∀ x y, RL l s x y → RL l t x y := fun _ _ ⟨r, h1, h2, h3⟩ => ⟨r, h1, h r h1 h2, h3⟩
theorem rch_time {l : List Rcd} {t : Int} {x y : Nat} (h : Rch (RL l t) x y) (hne : x ≠ y) : ∃ q, q ∈ l ∧ t ≤ q.t ∧ y ∈ rchL l x q.t := by
  have hex : ∃ q, q ∈ l ∧ t ≤ q.t := by
    cases h with
    | refl => exact absurd rfl hne
    | step _ k => obtain ⟨r, h1, h2, _⟩ := k; exact ⟨r, h1, h2⟩
  obtain ⟨q0, h1, h2, h3⟩ := min_time l hex
  exact ⟨q0, h1, h2, mem_rchL.2 (h.mono (RL.mono h3))⟩
theorem bst_max {L : List Rcd} {u v : Nat} : ∀ (l : List Rcd) (b : Int), (l.foldl (bstF L u v) b = b ∨ ∃ r, r ∈ l ∧ r.t = l.foldl (bstF L u v) b ∧ v ∈ rchL L u r.t) ∧ b ≤ l.foldl (bstF L u v) b ∧ ∀ r, r ∈ l → v ∈ rchL L u r.t → r.t ≤ l.foldl (bstF L u v) b
  | [], b => ⟨.inl rfl, Int.le_refl _, fun _ h => absurd h List.not_mem_nil⟩
  | r :: l, b => by
    obtain ⟨h1, h2, h3⟩ := bst_max (L := L) (u := u) (v := v) l (bstF L u v b r)
    rw [List.foldl_cons]
    have hb : b ≤ bstF L u v b r := by unfold bstF; split <;> omega
    refine ⟨?_, Int.le_trans hb h2, fun q hq hv => ?_⟩
    · rcases h1 with h1 | ⟨q, h4, h5, h6⟩
      · by_cases c : b < r.t ∧ v ∈ rchL L u r.t
        · have e : bstF L u v b r = r.t := if_pos c
          exact .inr ⟨r, List.mem_cons_self, by rw [h1, e], c.2⟩
        · have e : bstF L u v b r = b := if_neg c
          exact .inl (h1.trans e)
      · exact .inr ⟨q, List.mem_cons_of_mem _ h4, h5, h6⟩
    · rcases List.mem_cons.1 hq with c | c
      · subst c
        refine Int.le_trans ?_ h2
        unfold bstF
        by_cases d : b < q.t
        · rw [if_pos ⟨d, hv⟩]; exact Int.le_refl _
        · rw [if_neg (fun k => d k.1)]; omega
      · exact h3 q c hv
theorem best_is {all : List Rcd} {u v : Nat} (hne : u ≠ v) (hc : v ∈ rchL all u MINT) (hm : ∀ r, r ∈ all → MINT < r.t) : (∃ r, r ∈ all ∧ r.t = bestL all u v) ∧ Rch (RL all (bestL all u v)) u v ∧ ¬ Rch (RL all (bestL all u v + 1)) u v := by
  obtain ⟨h1, h2, h3⟩ := bst_max (L := all) (u := u) (v := v) all MINT
  obtain ⟨q, q1, q2, q3⟩ := rch_time (mem_rchL.1 hc) hne
  have hq : q.t ≤ bestL all u v := h3 q q1 q3
  have hx : ∃ r, r ∈ all ∧ r.t = bestL all u v ∧ v ∈ rchL all u r.t := by
    rcases h1 with h1 | h1
    · have h1' : bestL all u v = MINT := h1
      have := hm q q1
      omega
    · exact h1
  obtain ⟨r, r1, r2, r3⟩ := hx
  refine ⟨⟨r, r1, r2⟩, by rw [← r2]; exact mem_rchL.1 r3, fun k => ?_⟩
  obtain ⟨p, p1, p2, p3⟩ := rch_time k hne
  have h4 : p.t ≤ bestL all u v := h3 p p1 p3
  omega
theorem WnL.minT {G : WnG} {all : List Rcd} (hl : WnL G all) : ∀ r, r ∈ all → MINT < r.t ∧ G.now < r.t + G.W ∧ r.t + G.W ≤ 9223372036854775807 ∧ r.u < 18446744073709551616 ∧ r.v < 18446744073709551616 := by
  obtain ⟨ge, F, he⟩ := hl.ed
  intro r hr
  obtain ⟨s, h1, rfl⟩ := hl.mem.1 hr
  have h2 := he.ex s h1
  have h3 := hl.live s h1
  have h4 := he.stl.own s h1
  refine ⟨hl.times he h1, ?_, ?_, h4.2.2.1, h4.2.2.2.1⟩
  · show G.now < (G.g.R s).t + G.W; omega
  · show (G.g.R s).t + G.W ≤ _; omega
theorem un_is {G : WnG} {all : List Rcd} (hl : WnL G all) {u v : Nat} (h : unB all u v = true) : u ≠ v ∧ (u ∈ idsL all ∧ v ∈ idsL all) ∧ unT G.W all u v = bestL all u v + G.W ∧ G.now < bestL all u v + G.W ∧ bestL all u v + G.W ≤ 9223372036854775807 ∧ Rch (RL all (bestL all u v)) u v ∧ ¬ Rch (RL all (bestL all u v + 1)) u v := by
  have h0 := h
  unfold unB conB at h
  rw [Bool.and_eq_true, decide_eq_true_eq, decide_eq_true_eq] at h
  obtain ⟨⟨hk, hc⟩, hne⟩ := h
  obtain ⟨⟨r, r1, r2⟩, h2, h3⟩ := best_is hne hc fun r hr => (hl.minT r hr).1
  obtain ⟨_, m2, m3, _⟩ := hl.minT r r1
  rw [r2] at m2 m3
  exact ⟨hne, hk, by unfold unT; rw [if_pos h0], m2, m3, h2, h3⟩
theorem owns_below {w w' : World} {T : TypeId} {size n : Nat} {v : Value} {xs : List Value} (h : w.ownsRow 0 T size v n xs) (hb : Below w.heap.size w w') : w'.ownsRow 0 T size v n xs := owns_same h fun k hk => hb.block k (h.lt k hk).2
theorem RcB.up {w W W1 : World} {v : Value} {o : List Rcd} (h : RcB w v o W) (hb : Below W.heap.size W W1) : RcB w v o W1 := ⟨owns_below h.own hb, h.new, h.bel.trans (hb.mono h.bel.size)⟩
structure CnI (w : World) (b : Nat) (G : WnG) (all : List Rcd) (z : Nat) (cs : List Value) (v vs : Value) (Gk : WnG) (W : World) : Prop where
  st : WnS b G w Gk W
  eq : ∃ col, Gk = { G with col := col }
  ra : W.ownsRow 0 33 4 v all.length (rcV all)
  na : ∀ x, v.ownBlock = some x → ¬ Gk.foot b x
  rv : W.ownsRow 0 25 1 vs (idsL all).length (idV (idsL all))
  nv : ∀ x, vs.ownBlock = some x → ¬ Gk.foot b x
  bz : Blk W z 23 cs
  nz : ¬ Gk.foot b z
theorem CnI.below {w W W1 : World} {b z : Nat} {G Gk : WnG} {all : List Rcd} {cs : List Value} {v vs : Value} (h : CnI w b G all z cs v vs Gk W) (hb : Below W.heap.size W W1) : CnI w b G all z cs v vs Gk W1 :=
  ⟨h.st.below hb, h.eq, owns_below h.ra hb, h.na, owns_below h.rv hb, h.nv, h.bz.below hb h.bz.lt, h.nz⟩
theorem CnI.step {w W W1 : World} {b z : Nat} {G Gk : WnG} {all : List Rcd} {cs : List Value} {v vs : Value} (h : CnI w b G all z cs v vs Gk W) (s : WnV b Gk W W1) : ∃ G2, CnI w b G all z cs v vs G2 W1 ∧ WnS b Gk W G2 W1 := by
  obtain ⟨col, s⟩ := s
  obtain ⟨col0, e⟩ := h.eq
  refine ⟨_, ⟨h.st.trans s, ⟨col, by rw [e]⟩, (s.row h.ra h.na).1, (s.row h.ra h.na).2, (s.row h.rv h.nv).1, (s.row h.rv h.nv).2, (s.box h.bz h.nz).1, (s.box h.bz h.nz).2⟩, s⟩
theorem CnI.wl {w W : World} {b z : Nat} {G Gk : WnG} {all : List Rcd} {cs : List Value} {v vs : Value} (h : CnI w b G all z cs v vs Gk W) (hl : WnL G all) : WnL Gk all ∧ Gk.W = G.W := by
  obtain ⟨col, e⟩ := h.eq
  rw [e]; exact ⟨hl.col col, rfl⟩
theorem CnI.done {w W : World} {b z : Nat} {G Gk : WnG} {all : List Rcd} {cs : List Value} {v vs : Value} (h : CnI w b G all z cs v vs Gk W) : WnV b G w W := by
  obtain ⟨col, e⟩ := h.eq
  exact ⟨col, by rw [← e]; exact h.st⟩
end Go.Proofs.YtlooaipipmiijaaGreat
