/- The walk of LinkageEven. -/
import Derived.Test.YthhddjknjnjbhaaDoorLkCm
import Derived.Test.YthhddjknjnjbhaaDoorLkEv
namespace Go.Proofs.YthhddjknjnjbhaaDoor
set_option linter.unusedVariables false
set_option linter.unusedSimpArgs false
open Go.RowKit

theorem check_zero : checkL ((128 : Nat) : Int) (List.replicate 16384 0) = 0 := by
  have hg : ∀ i j, at2 128 (List.replicate 16384 0) i j = 0 := by
    intro i j
    unfold at2
    rw [List.getD_eq_getElem?_getD, List.getElem?_replicate]
    split <;> rfl
  unfold checkL
  rw [if_neg (by rw [List.length_replicate]; decide), if_neg, if_neg]
  · rw [Bool.not_eq_false]
    unfold inLim
    exact List.all_eq_true.2 fun x hx => by rw [List.eq_of_mem_replicate hx]; decide
  · rw [Bool.not_eq_false]
    exact symTo_of (n := 128) (fun i j _ _ => by rw [hg, hg]) (fun i _ => hg i i) 128 (Nat.le_refl _)

theorem check_big : checkL 129 (List.replicate 16641 0) = 2 := by
  unfold checkL
  rw [if_pos (.inr (.inl (by decide)))]

set_option maxHeartbeats 4000000 in
set_option maxRecDepth 100000 in
theorem even_law (n : Int) (hn : 0 ≤ n ∧ n ≤ 255) (x : Int) (hx : 0 ≤ x ∧ x < 18446744073709551616) (w : World) (hM : Mets w) :
    Calls Tryd.prog 8 #[.int .u8 n, .int .u64 x] w (RetB (.bool true) w) := by
  obtain ⟨n0, rfl⟩ := Int.eq_ofNat_of_zero_le hn.1
  have hn0 : n0 ≤ 255 := by omega
  have r1 : Int.tmod (n0 : Int) 129 = ((n0 % 129 : Nat) : Int) := mod_nat n0 129 (by omega)
  have hk : n0 % 129 < 129 := Nat.mod_lt _ (by omega)
  obtain ⟨k, HK⟩ : ∃ k, Hid (n0 % 129 = k) := ⟨_, rfl⟩
  rw [HK.out] at r1 hk
  have HX := Lib.hid hx
  have HMe := Lib.hid hM
  clear hn hx hM
  go_enter Tryd.func8, Tryd.ntmps8
  go_wp2_with fail
  generalize hW : World.alloc w _ = W
  have HZ : Hid (InRow .u64 W (some ⟨w.heap.size, 0, none⟩) 1 w.heap.size 0 [x]) := by
    show InRow _ _ _ _ _ _ _
    rw [← hW]; exact InRow.of_blk (k := .u64) (z := [x]) (Blk.new w 56 [.int .u64 x])
  have HB : Hid (Below w.heap.size w W) := by show Below _ _ _; rw [← hW]; exact (Below.refl _ _).alloc (Nat.le_refl _) _
  have HMe1 := Lib.hid (HMe.out.below HB.out HMe.out.lt)
  clear hW HMe
  with_reducible refine (points_ok W k (by omega) (some ⟨w.heap.size, 0, none⟩) 1 1 w.heap.size 0 [x] HZ.out (by omega) (fun y hy => by rw [List.mem_singleton.1 hy]; exact HX.out)).mono ?_
  rintro e w1 ⟨rfl, hblk, hb1⟩
  have HD1 := Lib.hid (pts_row hblk)
  have HB1 := Lib.hid (bel_then HB.out hb1)
  have HMe2 := Lib.hid (HMe1.out.below hb1 HMe1.out.lt)
  have HCK := Lib.hid (pts_check (n := k) (by omega) [x])
  clear hblk hb1 HMe1 HB HZ
  generalize W.heap.size = db at *
  obtain ⟨nn, HNN⟩ : ∃ nn, Hid (k * k = nn) := ⟨_, rfl⟩
  rw [HNN.out] at HD1 ⊢
  have m0 := HMe2.out.c0
  have m1 := HMe2.out.c1
  have m2 := HMe2.out.c2
  go_wp2_with fail
  clear m0 m1 m2 HMe2
  go_loopw [20] (fun s wr => ∃ i : Nat, i ≤ 3 ∧ s = .int .i64 i ∧ Below w.heap.size w wr ∧ InRow .i64 wr (some ⟨db, 0, none⟩) nn db 0 (ptsL k [x])) (fun s _ => 3 - (intOf s).toNat)
  case atStart => exact ⟨0, Nat.zero_le _, rfl, HB1.out, HD1.out⟩
  case round =>
    obtain ⟨i, hi, rfl, hb, hd⟩ := hrel
    clear HB1 HD1
    have HB := Lib.hid hb
    have HD := Lib.hid hd
    clear hb hd
    by_cases hi3 : i < 3
    · obtain ⟨m, hm, hidx⟩ := met_index hi3
      have HM := Lib.hid hm
      clear hm
      go_wp2_with fail
      clear hidx
      with_reducible refine (run_ok wr k m HM.out (some ⟨db, 0, none⟩) nn nn db 0 (ptsL k [x]) HD.out (fun h => by cases h) HNN.out.symm (by omega) HCK.out).mono ?_
      rintro e w2 ⟨v2, rfl, ho2, hb2, _⟩
      obtain ⟨o2, c2, b2, rfl, hr2⟩ := row_merges ho2
      have HD2 := Lib.hid (HD.out.below hb2)
      have HR2 := Lib.hid hr2
      have HB2 := Lib.hid (bel_then HB.out hb2)
      clear ho2 hb2 hr2 HD HB
      obtain ⟨k1, HK1⟩ : ∃ k1, Hid (k - 1 = k1) := ⟨_, rfl⟩
      have hk1 : (k = 0 ∧ k1 = 0) ∨ k = k1 + 1 := by have := HK1.out; omega
      rw [HK1.out] at HR2 ⊢
      simp only [HK1.out]
      have HE := Lib.hid (even_run (DOk.of_check HCK.out) HM.out (v := x % 1099511627777) (Int.emod_nonneg _ (by decide)) (pts_const (pv_one x)))
      rw [HE.out, HK1.out] at HR2
      clear HE
      have hmax : ∀ w, (Builtin.max_ #[3, 3] 3 #[Value.int IntKind.i64 (k - 1), .int .i64 0]).run Tryd.prog w = .ok (.int .i64 k1) w := by
        intro w
        rcases hk1 with ⟨rfl, rfl⟩ | rfl
        · rfl
        · rw [show ((k1 + 1 : Nat) : Int) - 1 = (k1 : Int) by omega]
          cases k1 with
          | zero => rfl
          | succ q => rfl
      have hk1b : k1 ≤ 128 := by omega
      go_wp2_with fail
      clear hmax hk1
      go_loop [42] (fun s => ∃ j : Nat, j ≤ k1 ∧ s = .int .i64 j) (fun s => k1 - (intOf s).toNat)
      case atStart => exact ⟨0, Nat.zero_le _, rfl⟩
      case round =>
        obtain ⟨j, hj, rfl⟩ := hrel
        by_cases hjk : j < k1
        · obtain rfl := HR2.out.adr (by omega)
          obtain ⟨c0, c1, c2', c3, c4⟩ := HR2.out.cell j hjk
          have eg : ((List.range k1).map (evM (x % 1099511627777))).getD j mg0 = evM (x % 1099511627777) j := by
            rw [List.getD_eq_getElem?_getD, List.getElem?_map, List.getElem?_range hjk]; rfl
          rw [eg] at c0 c1 c2' c3 c4
          simp only [evM, Nat.zero_add] at c0 c1 c2' c3 c4
          have hx1 := HX.out.1
          have hx2 := HX.out.2
          clear eg
          go_wp2_with fail
          go_round
          case rel => exact ⟨j + 1, by omega, by go_num⟩
          case measure => simp [intOf]; omega
        · obtain rfl : j = k1 := by omega
          go_wp2_with fail
          go_roundw
          case rel => exact ⟨i + 1, by omega, by go_num, HB2.out, HD2.out⟩
          case measure => simp [intOf]; omega
    · obtain rfl : i = 3 := by omega
      go_wp2_with (at_make; refine wpList_makeB 2 (.int .i64 0) 8 Tryd.underlying23 Tryd.infoI64V rfl _ _ _ _ 16641 rfl rfl rfl rfl (by omega) (by unfold maxLen; omega) ?_; intro w2 B2 hb2)
      with_reducible refine (check_any w2 129 (some ⟨_, 0, none⟩) 16641 16641 _ 0 (List.replicate 16641 0) (by have := InRow.of_blk (k := .i64) (z := List.replicate 16641 0) (by rw [List.map_replicate]; exact B2); rw [List.length_replicate] at this; exact this) (by omega)).mono ?_
      rintro e w3 ⟨rfl, hb3⟩
      rw [check_big]
      have HB3 := Lib.hid (bel_then (bel_then HB.out hb2) hb3)
      clear B2 hb2 hb3 HB HD
      obtain ⟨cs, HCS⟩ : ∃ cs, Hid ((List.replicate 16384 (Value.int .i64 0)) = cs) := ⟨_, rfl⟩
      have hmk : ∀ W, (Instr.makeSlice 23 (.int .i64 16384) (.int .i64 16384)).run Tryd.prog W = .ok (.slice (some ⟨W.heap.size, 0, none⟩) 16384 16384) (W.alloc (.cells cs.toArray 2)) := by
        intro W
        rw [← HCS.out]
        exact run_makeE 23 2 (.int .i64 0) 8 Tryd.underlying23 Tryd.infoI64V rfl .i64 .i64 16384 (by omega) (by unfold maxLen; omega) W
      go_wp2_with fail
      with_reducible refine (check_any _ 128 (some ⟨w3.heap.size, 0, none⟩) 16384 16384 w3.heap.size 0 (List.replicate 16384 0) (by have := InRow.of_blk (k := .i64) (z := List.replicate 16384 0) (by rw [List.map_replicate, HCS.out]; exact Blk.new w3 2 cs); rw [List.length_replicate] at this; exact this) (by omega)).mono ?_
      rintro e w4 ⟨rfl, hb4⟩
      have HB4 := Lib.hid (bel_then (HB3.out.alloc HB3.out.size _) hb4)
      rw [show checkL 128 (List.replicate 16384 0) = 0 from check_zero]
      clear hb4 hmk
      go_wp2_with fail
      with_reducible refine (works_ok w4).mono ?_
      rintro e w5 ⟨rfl, hb5⟩
      have HB5 := Lib.hid (bel_then HB4.out hb5)
      clear hb5
      go_wp2_with fail
      go_ret
      exact ⟨rfl, HB5.out⟩

end Go.Proofs.YthhddjknjnjbhaaDoor
