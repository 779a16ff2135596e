/- Reference of layer 17: joined, grown, Forest. -/
import Derived.Test.YtenhbfbfkcjimaaZRfO
namespace Go.Proofs.Ytenhbfbfkcjimaa
set_option linter.unusedVariables false
set_option linter.unusedSimpArgs false
open Go.RowKit

theorem relN_take {k : List Nat} {lo hi i : Nat} (h : i < k.length) : relN (k.take (i + 1)) lo hi = relN (k.take i) lo hi ++ [if k.getD i 0 = hi then lo else k.getD i 0] := by
  rw [take_snocN h]; unfold relN; rw [List.map_append]; rfl

set_option maxHeartbeats 4000000 in
set_option maxRecDepth 100000 in
theorem rjoin_ok (w : World) (ao : Option Addr) (n cap b off : Nat) (k : List Nat) (hr : InRow .i64 w ao n b off (nI k)) (hn : n ≤ 65536) (u v : Nat) (hu : u < n) (hv : v < n) :
    Calls Try.prog 78 #[.slice ao n cap, .int .i64 u, .int .i64 v] w (RowPost w 3 1 n (natV (relN k (min (k.getD u 0) (k.getD v 0)) (max (k.getD u 0) (k.getD v 0))))) := by
  have HR := Lib.hid hr
  have hl := hr.size
  rw [nI_len] at hl
  have HL := Lib.hid hl
  have c1 := hr.cell u hu
  have c2 := hr.cell v hv
  rw [nI_at (by omega)] at c1 c2
  obtain rfl := hr.adr (by omega)
  clear hr
  have t1 : (u : Int) < (n : Int) := by omega
  have t2 : (v : Int) < (n : Int) := by omega
  have t3 : (0 : Int) ≤ (u : Int) := by omega
  have t4 : (0 : Int) ≤ (v : Int) := by omega
  generalize k.getD u 0 = ku at *
  generalize k.getD v 0 = kv at *
  obtain ⟨lo, HLO⟩ : ∃ lo, Hid (min ku kv = lo) := ⟨_, rfl⟩
  obtain ⟨hi, HHI⟩ : ∃ hi, Hid (max ku kv = hi) := ⟨_, rfl⟩
  rw [HLO.out, HHI.out]
  go_enter Try.func78, Try.ntmps78
  go_wp2_with fail
  go_quiet (fail)
  have HR2 : Hid (InRow .i64 (w.drewN nq) (some ⟨b, off, none⟩) n b off (nI k)) := HR.out.below (bel_drewN (Below.refl _ _) nq)
  have HB2 : Hid (Below w.heap.size w (w.drewN nq)) := bel_drewN (Below.refl _ _) nq
  clear c1 c2 HR hl t1 t2 t3 t4
  generalize w.drewN nq = w2 at *
  have hlo := HLO.out
  have hhi := HHI.out
  by_cases hk : kv < ku
  · have tk : decide (kv < ku) = true := decide_eq_true hk
    obtain rfl : lo = kv := by omega
    obtain rfl : hi = ku := by omega
    clear hk hlo hhi HLO HHI
    go_wp2_with fail
    clear tk
    go_loopw [9, 10] (fun x s wr => ∃ i : Nat, i ≤ n ∧ s = .int .i64 i ∧ wr.ownsRow 0 3 1 x i (natV (relN (k.take i) lo hi)) ∧ (∀ y, x.ownBlock = some y → w2.heap.size ≤ y) ∧ Below w2.heap.size w2 wr) (fun _ s _ => n - (intOf s).toNat)
    case atStart => exact ⟨0, Nat.zero_le _, rfl, by rw [List.take_zero]; exact World.ownsRow_nil _ _ _ _, fun y hy => (by cases hy), Below.refl _ _⟩
    case round =>
      obtain ⟨i, hi', rfl, hx, hxn, hb⟩ := hrel
      have HX := Lib.hid hx
      have HXN := Lib.hid hxn
      have HB := Lib.hid hb
      clear hx hxn hb
      by_cases hin : i < n
      · have ci := (HR2.out.below HB.out).cell i hin
        rw [nI_at (by rw [HL.out]; exact hin)] at ci
        have HT := Lib.hid (relN_take (k := k) (lo := lo) (hi := hi) (i := i) (by rw [HL.out]; exact hin))
        generalize k.getD i 0 = ki at *
        by_cases hc : ki = hi
        · have tc : ((ki : Int) == (hi : Int)) = true := by simp [hc]
          rw [if_pos hc] at HT
          clear hc
          have HOW := Lib.hid (HX.out.alloc (.cells #[.int .i64 lo] 3))
          have HNW := Lib.hid (news_new wr 3 [.int .i64 lo])
          go_wp2_with (at_builtin; apply keepIt)
          apply Lib.hid
          refine wpList_appendB 3 (.int .i64 0) 1 8 Try.underlying24 Try.infoInt rfl (by decide) _ i _ rfl HOW.out ⟨wr.heap.size, 0, none⟩ 1 1 [.int .i64 lo] rfl rfl HNW.out (by simp [Value.oneCell']) (by unfold maxLen; omega) (by omega) ?_
          intro v6 w6 ho6 hg6 hn6
          obtain ⟨hv6, hvn6, hb6⟩ := app_one HXN.out HB.out.size ho6 hg6 hn6
          rw [← HT.out] at hv6
          have HB6 := Lib.hid (HB.out.trans hb6)
          have HV6 := Lib.hid hv6
          have HN6 := Lib.hid hvn6
          clear ho6 hg6 hn6 hv6 hvn6 hb6 tc ci
          go_wp2_with fail
          go_roundw
          case rel => exact ⟨i + 1, by omega, by go_num, HV6.out, HN6.out, HB6.out⟩
          case measure => simp [intOf]; omega
        · have tc : ((ki : Int) == (hi : Int)) = false := by simp; omega
          rw [if_neg hc] at HT
          clear hc
          have HOW := Lib.hid (HX.out.alloc (.cells #[.int .i64 ki] 3))
          have HNW := Lib.hid (news_new wr 3 [.int .i64 ki])
          go_wp2_with (at_builtin; apply keepIt)
          apply Lib.hid
          refine wpList_appendB 3 (.int .i64 0) 1 8 Try.underlying24 Try.infoInt rfl (by decide) _ i _ rfl HOW.out ⟨wr.heap.size, 0, none⟩ 1 1 [.int .i64 ki] rfl rfl HNW.out (by simp [Value.oneCell']) (by unfold maxLen; omega) (by omega) ?_
          intro v6 w6 ho6 hg6 hn6
          obtain ⟨hv6, hvn6, hb6⟩ := app_one HXN.out HB.out.size ho6 hg6 hn6
          rw [← HT.out] at hv6
          have HB6 := Lib.hid (HB.out.trans hb6)
          have HV6 := Lib.hid hv6
          have HN6 := Lib.hid hvn6
          clear ho6 hg6 hn6 hv6 hvn6 hb6 tc ci
          go_wp2_with fail
          go_roundw
          case rel => exact ⟨i + 1, by omega, by go_num, HV6.out, HN6.out, HB6.out⟩
          case measure => simp [intOf]; omega
      · obtain rfl : i = n := by omega
        go_wp2_with fail
        go_ret
        have hx := HX.out
        rw [List.take_of_length_le (by rw [HL.out]; exact Nat.le_refl _)] at hx
        exact ⟨⟨_, rfl, hx, bel_then HB2.out HB.out, fun y hy => Nat.le_trans HB2.out.size (HXN.out y hy)⟩⟩
  · have tk : decide (kv < ku) = false := decide_eq_false hk
    obtain rfl : lo = ku := by omega
    obtain rfl : hi = kv := by omega
    clear hk hlo hhi HLO HHI
    go_wp2_with fail
    clear tk
    go_loopw [9, 10] (fun x s wr => ∃ i : Nat, i ≤ n ∧ s = .int .i64 i ∧ wr.ownsRow 0 3 1 x i (natV (relN (k.take i) lo hi)) ∧ (∀ y, x.ownBlock = some y → w2.heap.size ≤ y) ∧ Below w2.heap.size w2 wr) (fun _ s _ => n - (intOf s).toNat)
    case atStart => exact ⟨0, Nat.zero_le _, rfl, by rw [List.take_zero]; exact World.ownsRow_nil _ _ _ _, fun y hy => (by cases hy), Below.refl _ _⟩
    case round =>
      obtain ⟨i, hi', rfl, hx, hxn, hb⟩ := hrel
      have HX := Lib.hid hx
      have HXN := Lib.hid hxn
      have HB := Lib.hid hb
      clear hx hxn hb
      by_cases hin : i < n
      · have ci := (HR2.out.below HB.out).cell i hin
        rw [nI_at (by rw [HL.out]; exact hin)] at ci
        have HT := Lib.hid (relN_take (k := k) (lo := lo) (hi := hi) (i := i) (by rw [HL.out]; exact hin))
        generalize k.getD i 0 = ki at *
        by_cases hc : ki = hi
        · have tc : ((ki : Int) == (hi : Int)) = true := by simp [hc]
          rw [if_pos hc] at HT
          clear hc
          have HOW := Lib.hid (HX.out.alloc (.cells #[.int .i64 lo] 3))
          have HNW := Lib.hid (news_new wr 3 [.int .i64 lo])
          go_wp2_with (at_builtin; apply keepIt)
          apply Lib.hid
          refine wpList_appendB 3 (.int .i64 0) 1 8 Try.underlying24 Try.infoInt rfl (by decide) _ i _ rfl HOW.out ⟨wr.heap.size, 0, none⟩ 1 1 [.int .i64 lo] rfl rfl HNW.out (by simp [Value.oneCell']) (by unfold maxLen; omega) (by omega) ?_
          intro v6 w6 ho6 hg6 hn6
          obtain ⟨hv6, hvn6, hb6⟩ := app_one HXN.out HB.out.size ho6 hg6 hn6
          rw [← HT.out] at hv6
          have HB6 := Lib.hid (HB.out.trans hb6)
          have HV6 := Lib.hid hv6
          have HN6 := Lib.hid hvn6
          clear ho6 hg6 hn6 hv6 hvn6 hb6 tc ci
          go_wp2_with fail
          go_roundw
          case rel => exact ⟨i + 1, by omega, by go_num, HV6.out, HN6.out, HB6.out⟩
          case measure => simp [intOf]; omega
        · have tc : ((ki : Int) == (hi : Int)) = false := by simp; omega
          rw [if_neg hc] at HT
          clear hc
          have HOW := Lib.hid (HX.out.alloc (.cells #[.int .i64 ki] 3))
          have HNW := Lib.hid (news_new wr 3 [.int .i64 ki])
          go_wp2_with (at_builtin; apply keepIt)
          apply Lib.hid
          refine wpList_appendB 3 (.int .i64 0) 1 8 Try.underlying24 Try.infoInt rfl (by decide) _ i _ rfl HOW.out ⟨wr.heap.size, 0, none⟩ 1 1 [.int .i64 ki] rfl rfl HNW.out (by simp [Value.oneCell']) (by unfold maxLen; omega) (by omega) ?_
          intro v6 w6 ho6 hg6 hn6
          obtain ⟨hv6, hvn6, hb6⟩ := app_one HXN.out HB.out.size ho6 hg6 hn6
          rw [← HT.out] at hv6
          have HB6 := Lib.hid (HB.out.trans hb6)
          have HV6 := Lib.hid hv6
          have HN6 := Lib.hid hvn6
          clear ho6 hg6 hn6 hv6 hvn6 hb6 tc ci
          go_wp2_with fail
          go_roundw
          case rel => exact ⟨i + 1, by omega, by go_num, HV6.out, HN6.out, HB6.out⟩
          case measure => simp [intOf]; omega
      · obtain rfl : i = n := by omega
        go_wp2_with fail
        go_ret
        have hx := HX.out
        rw [List.take_of_length_le (by rw [HL.out]; exact Nat.le_refl _)] at hx
        exact ⟨⟨_, rfl, hx, bel_then HB2.out HB.out, fun y hy => Nat.le_trans HB2.out.size (HXN.out y hy)⟩⟩

end Go.Proofs.Ytenhbfbfkcjimaa
