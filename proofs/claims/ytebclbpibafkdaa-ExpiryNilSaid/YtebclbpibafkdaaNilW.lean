/- ExpiryNil: the walk. -/
import Derived.Test.YtebclbpibafkdaaENil
namespace Go.Proofs.Ytebclbpibafkdaa
set_option linter.unusedVariables false
set_option linter.unusedSimpArgs false
open Go.RowKit

structure NilRel (w wr : World) : Prop where
  bel : Below w.heap.size w wr
  lst : Blk wr (w.heap.size + 1) 34 [.pointer none, .pointer (some ⟨w.heap.size, 0, none⟩)]
  zero : Blk wr w.heap.size 65 [.int .i64 0, .pointer none]

theorem NilRel.below {w wr w' : World} (h : NilRel w wr) (k : Below wr.heap.size wr w') : NilRel w w' :=
  ⟨h.bel.trans (k.mono h.bel.size), h.lst.below k h.lst.lt, h.zero.below k h.zero.lt⟩

theorem NilRel.at {w wr : World} (h : NilRel w wr) {k : Nat} (hk : k < 2) : ∃ p, wr.cell? ⟨w.heap.size + 1, k, none⟩ = some (.pointer p) ∧ EBad wr (.pointer p) := by
  obtain rfl | rfl : k = 0 ∨ k = 1 := by omega
  · exact ⟨none, h.lst.cell (i := 0) rfl, ⟨.inl rfl⟩⟩
  · exact ⟨_, h.lst.cell (i := 1) rfl, ⟨.inr ⟨_, rfl, h.zero.cell (i := 1) rfl⟩⟩⟩

theorem NilRel.start (w : World) : NilRel w ((w.alloc (.cells #[.int .i64 0, .pointer none] 65)).alloc (.cells #[.pointer none, .pointer (some ⟨w.heap.size, 0, none⟩)] 34)) :=
  ⟨((Below.refl _ _).alloc (Nat.le_refl _) _).alloc (by simp) _, Blk.new' (w.alloc _) _ [_, _] (by simp), (Blk.new w _ [_, _]).alloc _⟩

set_option maxHeartbeats 4000000 in
set_option maxRecDepth 100000 in
theorem nil_law (slot t : Int) (w : World) :
    Calls Try.prog 13 #[.int .i64 slot, .int .i64 t] w (RetB (.bool true) w) := by
  have HS := Lib.hid (NilRel.start w)
  go_enter Try.func13, Try.ntmps13
  go_wp2_with fail
  go_loopw [8] (fun s1 wr => ∃ k : Nat, k ≤ 2 ∧ s1 = .int .i64 k ∧ NilRel w wr) (fun s1 _ => 2 - (intOf s1).toNat)
  case atStart => exact ⟨0, by omega, rfl, HS.out⟩
  case round =>
    obtain ⟨k, hk, rfl, hr⟩ := hrel
    clear HS
    by_cases hlt : k < 2
    · obtain ⟨p, hc, hbad⟩ := hr.at hlt
      have HR := Lib.hid hr
      have HE := Lib.hid hbad
      clear hr hbad
      go_wp2_with fail
      with_reducible refine (enext_bad wr _ HE.out).mono ?_
      rintro e w1 ⟨rfl, hb1⟩
      have hb2 : Below wr.heap.size wr (w1.alloc (.cells #[.int .i64 0, .int .i64 0] 28)) := hb1.alloc hb1.size _
      have BX := Lib.hid (Blk.new w1 28 [.int .i64 0, .int .i64 0])
      have R2 := Lib.hid (HR.out.below hb2)
      have E2 := Lib.hid (HE.out.below hb2)
      clear hb1 hb2 hc HR HE
      go_wp2_with fail
      generalize hW : World.alloc w1 _ = W2 at *
      generalize w1.heap.size = x at *
      clear hW
      with_reducible refine (eleft_bad W2 _ E2.out _ _).mono ?_
      rintro e w3 ⟨rfl, hb⟩
      have R3 := Lib.hid (R2.out.below hb)
      have E3 := Lib.hid (E2.out.below hb)
      have X3 := Lib.hid (BX.out.below hb BX.out.lt)
      clear hb R2 E2 BX
      go_wp2_with fail
      with_reducible refine (eset_bad w3 _ E3.out _ _).mono ?_
      rintro e w4 ⟨rfl, hb⟩
      have R4 := Lib.hid (R3.out.below hb)
      have E4 := Lib.hid (E3.out.below hb)
      have X4 := Lib.hid (X3.out.below hb X3.out.lt)
      clear hb R3 E3 X3
      go_wp2_with fail
      with_reducible refine (edrop_bad w4 _ E4.out _).mono ?_
      rintro e w5 ⟨rfl, hb⟩
      have R5 := Lib.hid (R4.out.below hb)
      have E5 := Lib.hid (E4.out.below hb)
      have X5 := X4.out.below hb X4.out.lt
      clear hb R4 E4 X4
      have hx0 := X5.cell (i := 0) rfl
      have hx1 := X5.cell (i := 1) rfl
      clear X5
      go_wp2_with (first
        | (go_at_call 29; refine (edue_bad w5 _ E5.out _).mono ?_; rintro e w' ⟨rfl, rfl⟩)
        | (go_at_call 33; refine (elen_bad w5 _ E5.out).mono ?_; rintro e w' ⟨rfl, rfl⟩)
        | (go_at_call 36; refine (ecopy_bad w5 _ E5.out).mono ?_; rintro e w' ⟨rfl, rfl⟩))
      go_roundw
      case rel => exact ⟨k + 1, by omega, by go_num, R5.out⟩
      case measure => simp [intOf]; omega
    · have HR := Lib.hid hr
      clear hr
      go_wp2_with fail
      with_reducible refine (works35 _).mono ?_
      rintro e w' ⟨rfl, hb⟩
      have HB := Lib.hid (HR.out.bel.trans (hb.mono HR.out.bel.size))
      clear hb
      go_wp2_with fail
      go_ret
      exact ⟨rfl, HB.out⟩

end Go.Proofs.Ytebclbpibafkdaa
