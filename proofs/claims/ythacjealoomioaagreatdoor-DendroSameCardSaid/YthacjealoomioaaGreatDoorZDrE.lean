/- DrE. -/
import Derived.Test.YthacjealoomioaaGreatDoorZGo
/- The reference of layer 22: digits, Decimal. -/
namespace Go.Proofs.YthacjealoomioaaGreatDoor
set_option linter.unusedVariables false
set_option linter.unusedSimpArgs false
open Go.RowKit

set_option maxHeartbeats 4000000 in
set_option maxRecDepth 100000 in
theorem r22digits_ok : ∀ u : Nat, u < 18446744073709551616 → ∀ w : World, Calls Tryz.prog 120 #[.int .u64 (u : Int)] w (RetB (.string ⟨(Lib.decDigits u).toArray⟩) w) := by
  intro u
  induction u using Nat.strongRecOn with
  | _ u ih =>
    intro hu w
    have HIH := Lib.hid ih
    clear ih
    have v1 : IntKind.u64.wrap ((u : Int) % 10) = ((u % 10 : Nat) : Int) := by rw [show (u : Int) % 10 = ((u % 10 : Nat) : Int) by omega]; exact IntWalk.u64_in _ (by omega)
    go_enter Tryz.func120, Tryz.ntmps120
    have hb8 : (UInt8.ofNat (48 + u % 10)).toNat = 48 + u % 10 := ofNat48 (by omega)
    have hcv := run_convert_bytes_back (P := Tryz.prog) (w.alloc (.cells #[.int .u8 (48 + (u : Int) % 10)] 5)) 56 9 5 ⟨w.heap.size, 0, none⟩ 1 [UInt8.ofNat (48 + u % 10)] Tryz.underlying56 Tryz.underlying5 Tryz.underlying9 (fun j hj => by
      have hj0 : j = 0 := by simpa using hj
      subst hj0
      have := (Blk.new w 5 [.int .u8 (48 + (u : Int) % 10)]).cell (i := 0) rfl
      rw [show ((⟨w.heap.size, 0, none⟩ : Addr).add 0) = ⟨w.heap.size, 0, none⟩ by simp [Addr.add]]
      rw [this]
      simp only [List.getElem_cons_zero]
      rw [hb8]
      congr 2)
    have HBW := Lib.hid (bel_alloc w (.cells #[.int .u8 (48 + (u : Int) % 10)] 5))
    clear hb8
    have hcv : (convert 56 9 (.slice (some ⟨w.heap.size, 0, none⟩) 1 1)).run Tryz.prog (w.alloc (.cells #[.int .u8 (48 + (u : Int) % 10)] 5)) = .ok (.string ⟨#[UInt8.ofNat (48 + u % 10)]⟩) (w.alloc (.cells #[.int .u8 (48 + (u : Int) % 10)] 5)) := hcv
    obtain ⟨ch, HCH⟩ : ∃ ch, Hid (UInt8.ofNat (48 + u % 10) = ch) := ⟨_, rfl⟩
    rw [HCH.out] at hcv
    go_upto_region 2 with fail
    clear hcv
    by_cases h10 : u < 10
    · have t1 : (u : Int) < 10 := by omega
      have t2 : decide (u < 10) = true := decide_eq_true h10
      have HD : Hid (Lib.decDigits u = [ch]) := by
        show _ = _
        rw [Lib.decDigits_one h10, ← HCH.out, Nat.mod_eq_of_lt h10]
      clear h10
      go_wp2_with fail
      go_ret
      rw [HD.out]
      exact ⟨rfl, HBW.out⟩
    · have t1 : ¬ (u : Int) < 10 := by omega
      have t2 : decide (u < 10) = false := decide_eq_false h10
      have HD : Hid (Lib.decDigits u = Lib.decDigits (u / 10) ++ [ch]) := by
        show _ = _
        rw [Lib.decDigits, dif_neg h10, HCH.out]
      have HC := HIH.out (u / 10) (by omega) (by omega) (w.alloc (.cells #[.int .u8 (48 + (u : Int) % 10)] 5))
      rw [show ((u / 10 : Nat) : Int) = (u : Int) / 10 by omega] at HC
      have HC2 := Lib.hid HC
      clear h10 HC
      go_wp2_with fail
      refine HC2.out.mono ?_
      rintro e w2 ⟨rfl, hb⟩
      have HB2 := Lib.hid (bel_then HBW.out hb)
      clear hb HC2
      have hsz : (⟨(Lib.decDigits (u / 10)).toArray⟩ : ByteArray).size ≤ 20 := by
        show (Lib.decDigits (u / 10)).toArray.size ≤ 20
        rw [List.size_toArray, Lib.decDigits_length]
        exact Lib.nDigits_le20 _ (by omega)
      have HEQ : Hid ((⟨(Lib.decDigits (u / 10)).toArray⟩ : ByteArray) ++ ⟨#[ch]⟩ = ⟨(Lib.decDigits u).toArray⟩) := by
        show _ = _
        rw [HD.out]
        apply ByteArray.ext
        simp
      obtain ⟨BA, HBA⟩ : ∃ BA, Hid ((⟨(Lib.decDigits (u / 10)).toArray⟩ : ByteArray) = BA) := ⟨_, rfl⟩
      obtain ⟨BB, HBB⟩ : ∃ BB, Hid ((⟨#[ch]⟩ : ByteArray) = BB) := ⟨_, rfl⟩
      have hb1 : BB.size = 1 := by rw [← HBB.out]; rfl
      rw [HBA.out] at hsz HEQ ⊢
      rw [HBB.out] at HEQ ⊢
      have hadd : ∀ w, (Op.stringOp .add BA BB).run Tryz.prog w = .ok (.string (BA ++ BB)) w := fun w => run_string_add_sum w BA BB (by omega)
      clear hsz hb1
      go_wp2_with fail
      go_ret
      rw [HEQ.out]
      exact ⟨rfl, HB2.out⟩

set_option maxHeartbeats 4000000 in
set_option maxRecDepth 100000 in
theorem r22decimal_ok (x : Int) (hx : In64 x) (w : World) : Calls Tryz.prog 108 #[.int .i64 x] w (RetB (.string ⟨(Lib.itoa x).toArray⟩) w) := by
  obtain ⟨h1, h2⟩ := hx
  by_cases hn : x < 0
  · obtain ⟨u, hxu⟩ : ∃ u : Nat, x = -(u : Int) := ⟨(-x).toNat, by omega⟩
    have HXU := Lib.hid hxu
    have hu1 : 1 ≤ u := by omega
    have hu2 : u ≤ 9223372036854775808 := by omega
    have t1 : decide (x < 0) = true := decide_eq_true hn
    have v1 : IntKind.u64.wrap x = 18446744073709551616 - (u : Int) := by rw [hxu]; unfold IntKind.wrap; simp [IntKind.signed, IntKind.bits]; omega
    have v2 : IntKind.u64.wrap (-(18446744073709551616 - (u : Int))) = (u : Int) := by unfold IntKind.wrap; simp [IntKind.signed, IntKind.bits]; omega
    have HC := Lib.hid (r22digits_ok u (by omega) w)
    have hsz : (⟨(Lib.decDigits u).toArray⟩ : ByteArray).size ≤ 20 := by
      show (Lib.decDigits u).toArray.size ≤ 20
      rw [List.size_toArray, Lib.decDigits_length]
      exact Lib.nDigits_le20 _ (by omega)
    have HEQ : Hid ((⟨#[45]⟩ : ByteArray) ++ ⟨(Lib.decDigits u).toArray⟩ = ⟨(Lib.itoa x).toArray⟩) := by
      show _ = _
      rw [hxu, Lib.itoa_neg u hu1]
      apply ByteArray.ext
      simp
    obtain ⟨BA, HBA⟩ : ∃ BA, Hid ((⟨(Lib.decDigits u).toArray⟩ : ByteArray) = BA) := ⟨_, rfl⟩
    rw [HBA.out] at hsz HEQ HC
    have hadd : ∀ w, (Op.stringOp .add ⟨#[45]⟩ BA).run Tryz.prog w = .ok (.string (⟨#[45]⟩ ++ BA)) w := fun w => run_string_add_sum w _ BA (by have : (⟨#[45]⟩ : ByteArray).size = 1 := rfl; omega)
    clear hsz hn hu1 hu2 h1 h2 hxu
    go_enter Tryz.func108, Tryz.ntmps108
    go_wp2_with fail
    refine HC.out.mono ?_
    rintro e w2 ⟨rfl, hb⟩
    have HB := Lib.hid hb
    clear hb
    go_wp2_with fail
    go_ret
    rw [← HEQ.out]
    exact ⟨rfl, HB.out⟩
  · obtain ⟨u, rfl⟩ := Int.eq_ofNat_of_zero_le (show 0 ≤ x by omega)
    have t1 : ¬ (u : Int) < 0 := hn
    have v1 : IntKind.u64.wrap (u : Int) = (u : Int) := by unfold IntKind.wrap; simp [IntKind.signed, IntKind.bits]; omega
    have HC := Lib.hid (r22digits_ok u (by omega) w)
    have HI : Hid (Lib.itoa (u : Int) = Lib.decDigits u) := Lib.itoa_nonneg u
    clear hn
    go_enter Tryz.func108, Tryz.ntmps108
    go_wp2_with fail
    refine HC.out.mono ?_
    rintro e w2 ⟨rfl, hb⟩
    have HB := Lib.hid hb
    clear hb
    go_wp2_with fail
    go_ret
    rw [HI.out]
    exact ⟨rfl, HB.out⟩

end Go.Proofs.YthacjealoomioaaGreatDoor
