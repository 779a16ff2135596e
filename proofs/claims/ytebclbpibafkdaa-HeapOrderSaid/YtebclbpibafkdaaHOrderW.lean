/- HeapOrder: the walk. -/
import Derived.Test.YtebclbpibafkdaaHTwo
import Derived.Test.YtebclbpibafkdaaHeapSortsP
namespace Go.Proofs.Ytebclbpibafkdaa
set_option linter.unusedVariables false
set_option linter.unusedSimpArgs false
open Go.RowKit

set_option maxHeartbeats 4000000 in
set_option maxRecDepth 100000 in
theorem horder_long (ao : Option Addr) (len cap : Nat) (w : World) (hl : 300 < len) (hm : len ≤ 9223372036854775807) :
    Calls Try.prog 14 #[.slice ao len cap] w (RetB (.bool true) w) := by
  go_enter Try.func14, Try.ntmps14
  go_wp2_with fail
  with_reducible refine (works04 _).mono ?_
  rintro e w' ⟨rfl, hb⟩
  have HB := Lib.hid hb
  clear hb
  go_wp2_with fail
  go_ret
  exact ⟨rfl, HB.out⟩

set_option maxHeartbeats 8000000 in
set_option maxRecDepth 100000 in
theorem horder_short (ao : Option Addr) (len cap b off : Nat) (z : List Int) (w : World) (hz : InRow .i64 w ao len b off z) (hl : len ≤ 300) :
    Calls Try.prog 14 #[.slice ao len cap] w (RetB (.bool true) w) := by
  have HZ := Lib.hid hz
  clear hz
  have hd300 : decide (300 < (len : Int)) = false := by simp; omega
  go_enter Try.func14, Try.ntmps14
  go_wp2_with fail
  with_reducible refine (hfilled ao len cap b off z false w HZ.out hl).mono ?_
  rintro e w1 ⟨a, g, hf, rfl⟩
  have F := Lib.hid hf
  clear hf
  go_wp2_with fail
  with_reducible refine (hfilled ao len cap b off z true w1 (HZ.out.below F.out.bel) hl).mono ?_
  rintro e w2 ⟨c, h, hf, rfl⟩
  have T2 := Lib.hid (HTwo.start F.out hf)
  have hLl : (sortE (pairs z)).length = len := by rw [sortE_pairs_length, HZ.out.size]
  have HL := Lib.hid hLl
  clear hf F HZ hLl
  generalize sortE (pairs z) = S at T2 HL
  go_wp2_with fail
  with_reducible refine (list_ok w2 a 300 S g T2.out.a.obj).mono ?_
  rintro e w3 ⟨v, rfl, hrow⟩
  have T3 := Lib.hid (T2.out.below hrow.bel)
  have R3 := ERowX.of (b := c) (slots := 300) (S := S) hrow T2.out.b.lt
  obtain ⟨o3, c3, hv3⟩ := owns_slice R3.own
  subst hv3
  rw [HL.out]
  have R3 := Lib.hid R3
  clear hrow T2
  go_wp2_with fail
  with_reducible refine (list_ok w3 c 300 S h T3.out.b.obj).mono ?_
  rintro e w4 ⟨u, rfl, hrow⟩
  have T4 := Lib.hid (T3.out.below hrow.bel)
  have R4 := Lib.hid (R3.out.below hrow.bel)
  have Q4 := Lib.hid hrow.own
  clear hrow T3 R3
  go_wp2_with fail
  have hr4 := R4.out.own
  rw [HL.out] at hr4
  have hsm := same04 w4 (.slice o3 len c3) u S (by rw [HL.out]; exact hr4) Q4.out (by rw [HL.out]; omega)
  with_reducible refine hsm.mono ?_
  clear hsm hr4
  rintro e w5 ⟨rfl, hb5⟩
  have T5 := Lib.hid (T4.out.below hb5)
  have R5 := Lib.hid (R4.out.below hb5)
  clear hb5 T4 R4 Q4
  go_wp2_with fail
  go_loopw [6] (fun s6 wr => ∃ (k : Nat) (g' : HG), k ≤ len ∧ s6 = .int .i64 k ∧ HFresh w c 300 (S.drop k) g' wr ∧ ERowX wr (.slice o3 S.length c3) S g') (fun s6 _ => len - (intOf s6).toNat)
  case atStart => exact ⟨0, h, by omega, rfl, by rw [List.drop_zero]; exact T5.out.b, R5.out⟩
  case round =>
    obtain ⟨k, g', hk, rfl, hf, hr⟩ := hrel
    clear T5 R5
    by_cases hlt : k < len
    · have hltS : k < S.length := by rw [HL.out]; exact hlt
      have hdr := drop_ent k hltS
      rw [hdr] at hf
      have HF := Lib.hid hf
      have HR := Lib.hid hr
      clear hf hr hdr
      obtain ⟨x, hx⟩ : ∃ x, x = ent S k := ⟨_, rfl⟩
      have HX := Lib.hid hx
      rw [← hx] at HF
      clear hx
      have HLT := Lib.hid hltS
      clear hltS
      go_wp2_with fail
      with_reducible refine (pop_some wr c 300 x _ g' HF.out.obj).mono ?_
      rintro e w6 ⟨rfl, g6, ho, hm, hf⟩
      have F6 := HF.out.step ho hm hf
      have R6 := HR.out.step hm hf
      have hb7 : Below w6.heap.size w6 (w6.alloc (.cells #[.int .i64 x.1, .int .i64 x.2] 28)) := (Below.refl _ _).alloc (Nat.le_refl _) _
      have F7 := Lib.hid (F6.below hb7)
      have R7 := R6.below hb7
      obtain ⟨ao', cap', hv', hcells⟩ := erow_form R7.own
      injection hv' with e1 e2 e3
      subst e1; subst e3
      obtain ⟨bb, rfl, _, hcp1, hcp2, hc⟩ := hcells (by rw [HL.out]; omega)
      obtain ⟨k0, k1⟩ := hc k HLT.out
      rw [← HX.out] at k0 k1
      rw [HL.out] at hcp1
      unfold maxLen at hcp2
      have BX := Blk.new w6 28 [.int .i64 x.1, .int .i64 x.2]
      have x0 := BX.cell (i := 0) rfl
      have x1 := BX.cell (i := 1) rfl
      have R7 := Lib.hid R7
      have t1 : (k : Int) < (len : Int) := by omega
      clear ho hm hf F6 R6 hb7 hcells hc HF HR BX e2
      go_wp2_with fail
      generalize hW : World.alloc w6 _ = W7 at *
      clear hW
      go_quiet (fail)
      go_wp2_with fail
      go_roundw
      case rel => exact ⟨k + 1, g6, by omega, by go_num, F7.out.below (bel_drewN (Below.refl _ _) _), R7.out.below (bel_drewN (Below.refl _ _) _)⟩
      case measure => simp [intOf]; omega
    · have HF := Lib.hid hf
      clear hf hr
      go_wp2_with fail
      with_reducible refine (works04 _).mono ?_
      rintro e w' ⟨rfl, hb⟩
      have HB := Lib.hid (HF.out.bel.trans (hb.mono HF.out.bel.size))
      clear hb
      go_wp2_with fail
      go_ret
      exact ⟨rfl, HB.out⟩

end Go.Proofs.Ytebclbpibafkdaa
