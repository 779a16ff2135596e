/- DlC0. -/
import Derived.Test.YthacjealoomioaaGreatDoorZDlU0
import Derived.Test.YthacjealoomioaaGreatDoorZDuG
import Derived.BigQuiet
/- Cuts in numbers; clusters. (printed by dlc.py) -/
namespace Go.Proofs.YthacjealoomioaaGreatDoor
set_option linter.unusedVariables false
set_option linter.unusedSimpArgs false
open Go.RowKit

theorem rt_len {n m : Nat} {L : List Ed} {T : Tr} {ls : List Nat} (h : GTree n m L T ls) : FN n L + (rootsL T n m ls).length = n := by
  have := h.tv.count
  have e := h.meq
  omega
theorem cut_eq {n m : Nat} {L : List Ed} {T : Tr} {ls : List Nat} (h : GTree n m L T ls) {k : Nat} (h1 : n ≤ k + FN n L) (h2 : k ≤ n) : cutO T (k : Int) = (0, ctK n L (n - k)) := by
  have hr := rt_len h
  unfold cutO
  rw [h.ls]
  simp only
  rw [h.tv.lv, h.tv.pl, Int.toNat_natCast, if_neg (by omega)]
  have e : ((n : Int) - (k : Int)).toNat = n - k := by omega
  rw [e]
  unfold cutL ctK
  rw [h.eq, h.meq, h.lseq]
theorem cut_no {n m : Nat} {L : List Ed} {T : Tr} {ls : List Nat} (h : GTree n m L T ls) {k : Nat} (h1 : k + FN n L < n ∨ n < k) : cutO T (k : Int) = (3, []) := by
  have hr := rt_len h
  unfold cutO
  rw [h.ls]
  simp only
  rw [h.tv.lv, h.tv.pl, Int.toNat_natCast, if_pos (by omega)]
theorem ctK_len (n : Nat) (L : List Ed) (j : Nat) : (ctK n L j).length = n := by simp [ctK]

theorem Tryz.rowCnt (R : Int) : ∀ (x z : Int) (w : World), (Instr.field 67 (.agg #[.int .i64 x, .int .i64 R, .int .i64 z]) 1).run Tryz.prog w = .ok (.int .i64 R) w := fun x z w => by kernel_rfl

set_option maxHeartbeats 8000000 in
set_option maxRecDepth 100000 in
theorem dclusters_ok (w : World) (a : Option Addr) (b n c : Nat) (K : List Nat) (h : LbRow w a b n K) (ko : KOk n K) (hn : n ≤ 4096) : Calls Tryz.prog 34 #[.slice a n c] w (RetB (.int .i64 ((roots n K : Nat) : Int)) w) := by
  have HL := Lib.hid h
  have HK := Lib.hid ko
  clear h ko
  go_enter Tryz.func34, Tryz.ntmps34
  go_wp2_with fail
  go_loopw [3, 4] (fun s3 s wr => ∃ v : Nat, v ≤ n ∧ s = .int .i64 (v : Int) ∧ s3 = .int .i64 ((rtN K v : Nat) : Int) ∧ Below w.heap.size w wr) (fun _ s _ => n - (intOf s).toNat)
  case atStart => exact ⟨0, Nat.zero_le _, rfl, rfl, Below.refl _ _⟩
  case round =>
    obtain ⟨v, hv, rfl, rfl, hb⟩ := hrel
    have HB := Lib.hid hb
    clear hb
    by_cases hvn : v < n
    · obtain rfl := HL.out.adr (by omega)
      have hle := HK.out.le v hvn
      have hid := HK.out.idem v hvn
      have e1 := (HL.out.below HB.out).cell v hvn
      have e2 := (HL.out.below HB.out).cell (K.getD v 0) (by omega)
      rw [hid] at e2
      have HRT := Lib.hid (rtN_succ K v)
      have hrl := rtN_le K v
      obtain ⟨r, HRV⟩ : ∃ r, Hid (rtN K v = r) := ⟨_, rfl⟩
      rw [HRV.out] at hrl
      rw [HRV.out]
      clear hid
      obtain ⟨q, HQV⟩ : ∃ q, Hid (K.getD v 0 = q) := ⟨_, rfl⟩
      rw [HQV.out] at e1 e2 hle
      have t1 : (v : Int) < (n : Int) := by omega
      have t2 : (0 : Int) ≤ (v : Int) := by omega
      have t3 : decide ((q : Int) < 0) = false := decide_eq_false (by omega)
      have t4 : decide ((v : Int) < (q : Int)) = false := decide_eq_false (by omega)
      have t4' : decide (v < q) = false := decide_eq_false (by omega)
      have t5 : ((q : Int) != (q : Int)) = false := by simp
      have t6 : (0 : Int) ≤ (q : Int) := by omega
      have t7 : (q : Int) < (n : Int) := by omega
      by_cases hq : q = v
      · have t8 : ((q : Int) == (v : Int)) = true := by rw [beq_iff_eq]; omega
        have t8' : (q == v) = true := by rw [beq_iff_eq]; exact hq
        obtain ⟨r1, HR1⟩ : ∃ r1, Hid (r + 1 = r1) := ⟨_, rfl⟩
        have er : (r : Int) + 1 = (r1 : Int) := by have := HR1.out; omega
        have wr1 : IntKind.i64.wrap (r1 : Int) = (r1 : Int) := IntWalk.i64_in _ (by have := HR1.out; omega)
        have HE : Hid (rtN K (v + 1) = r1) := by show _ = _; rw [HRT.out, if_pos (by rw [HQV.out]; exact hq), HRV.out, HR1.out]
        clear hq
        go_wp2_with fail
        go_quiet (fail)
        have e3 := (HL.out.below (bel_drewN HB.out nq)).cell v hvn
        rw [HQV.out] at e3
        have HB7 := Lib.hid (bel_drewN HB.out nq)
        generalize wr.drewN nq = w7 at *
        clear e1 e2
        go_wp2_with fail
        go_roundw
        case rel => exact ⟨v + 1, by omega, by go_num, by rw [HE.out], HB7.out⟩
        case measure => simp [intOf]; omega
      · have t8 : ((q : Int) == (v : Int)) = false := by rw [beq_eq_false_iff_ne]; omega
        have t8' : (q == v) = false := by rw [beq_eq_false_iff_ne]; exact hq
        have HE : Hid (rtN K (v + 1) = r) := by show _ = _; rw [HRT.out, if_neg (by rw [HQV.out]; exact hq), HRV.out, Nat.add_zero]
        clear hq
        go_wp2_with fail
        go_quiet (fail)
        have e3 := (HL.out.below (bel_drewN HB.out nq)).cell v hvn
        rw [HQV.out] at e3
        have HB7 := Lib.hid (bel_drewN HB.out nq)
        generalize wr.drewN nq = w7 at *
        clear e1 e2
        go_wp2_with fail
        go_roundw
        case rel => exact ⟨v + 1, by omega, by go_num, by rw [HE.out], HB7.out⟩
        case measure => simp [intOf]; omega
    · obtain rfl : v = n := by omega
      have t1 : ¬ (v : Int) < (v : Int) := by omega
      rw [rtN_end]
      go_wp2_with fail
      go_ret
      exact ⟨rfl, HB.out⟩

end Go.Proofs.YthacjealoomioaaGreatDoor
