/- The walk of LinkageScales. -/
import Derived.Test.YthhddjknjnjbhaaDoorLkCm
import Derived.Test.YthhddjknjnjbhaaDoorLkRo
namespace Go.Proofs.YthhddjknjnjbhaaDoor
set_option linter.unusedVariables false
set_option linter.unusedSimpArgs false
open Go.RowKit

/-- The first i elements by f, the others by g. -/
def upTo (f g : Int → Int) (L : List Int) (i : Nat) : List Int := (L.take i).map f ++ (L.drop i).map g

theorem upTo_zero (f g : Int → Int) (L : List Int) : upTo f g L 0 = L.map g := by simp [upTo]
theorem upTo_end (f g : Int → Int) (L : List Int) : upTo f g L L.length = L.map f := by simp [upTo]
theorem upTo_length (f g : Int → Int) (L : List Int) (i : Nat) (hi : i ≤ L.length) : (upTo f g L i).length = L.length := by simp [upTo]; omega

theorem upTo_at (f g : Int → Int) {L : List Int} {i : Nat} (hi : i < L.length) : (upTo f g L i).getD i 0 = g (L.getD i 0) := by
  unfold upTo
  rw [List.getD_eq_getElem?_getD, List.getElem?_append_right (by simp; omega), List.length_map, List.length_take, Nat.min_eq_left (by omega), Nat.sub_self, List.getElem?_map, List.getElem?_drop, List.getD_eq_getElem?_getD, Nat.add_zero, List.getElem?_eq_getElem hi]
  rfl

theorem upTo_step (f g : Int → Int) {L : List Int} {i : Nat} (hi : i < L.length) : (upTo f g L i).set i (f (L.getD i 0)) = upTo f g L (i + 1) := by
  unfold upTo
  rw [List.set_append_right _ _ (by simp; omega), List.length_map, List.length_take, Nat.min_eq_left (by omega), Nat.sub_self, List.drop_eq_getElem_cons hi, List.map_cons, List.set_cons_zero, List.take_succ_eq_append_getElem hi, List.map_append, List.append_assoc]
  congr 2
  rw [List.getD_eq_getElem?_getD, List.getElem?_eq_getElem hi]
  rfl

theorem check_map {n : Nat} {d : List Int} {f : Int → Int} (h : checkL n d = 0) (h0 : f 0 = 0) (hf : ∀ x, 0 ≤ x ∧ x ≤ 1099511627776 → 0 ≤ f x ∧ f x ≤ 1099511627776) : checkL n (d.map f) = 0 := by
  have hd := DOk.of_check h
  unfold checkL at h ⊢
  split at h
  · cases h
  rename_i h1
  split at h
  · cases h
  rename_i h2
  split at h
  · cases h
  rename_i h3
  rw [if_neg (by rw [List.length_map]; exact h1), if_neg, if_neg]
  · rw [Bool.not_eq_false] at h3 ⊢
    unfold inLim at *
    refine List.all_eq_true.2 fun y hy => ?_
    obtain ⟨x, hx, rfl⟩ := List.mem_map.1 hy
    have := List.all_eq_true.1 h3 x hx
    rw [decide_eq_true_eq] at this ⊢
    exact hf x this
  · rw [Bool.not_eq_false, Int.toNat_natCast]
    exact symTo_of (fun i j hi hj => by rw [at2_map h0, at2_map h0, hd.sym i j hi hj]) (fun i hi => by rw [at2_map h0, hd.zero i hi, h0]) n (Nat.le_refl _)

theorem tmod_pos {x : Int} (h : 0 ≤ x) (c : Int) : Int.tmod x c = x % c := Int.tmod_eq_emod_of_nonneg h

set_option maxHeartbeats 4000000 in
set_option maxRecDepth 100000 in
theorem scales_law (n : Int) (hn : 0 ≤ n ∧ n ≤ 255) (ao : Option Addr) (len cap b off : Nat) (z : List Int) (by_ : Int) (hby : 0 ≤ by_ ∧ by_ ≤ 65535) (w : World) (hM : Mets w)
    (hz : InRow .u64 w ao len b off z) (hlen : len ≤ 9223372036854775807) (hu : ∀ x ∈ z, 0 ≤ x ∧ x < 18446744073709551616) :
    Calls Tryd.prog 5 #[.int .u8 n, .slice ao len cap, .int .u16 by_] w (RetB (.bool true) w) := by
  have HZ := Lib.hid hz
  have HU := Lib.hid hu
  have HMe := Lib.hid hM
  obtain ⟨n0, rfl⟩ := Int.eq_ofNat_of_zero_le hn.1
  have hn0 : n0 ≤ 255 := by omega
  have r1 : Int.tmod (n0 : Int) 31 = ((n0 % 31 : Nat) : Int) := mod_nat n0 31 (by omega)
  have hk : n0 % 31 < 31 := Nat.mod_lt _ (by omega)
  obtain ⟨k, HK⟩ : ∃ k, Hid (n0 % 31 = k) := ⟨_, rfl⟩
  rw [HK.out] at r1 hk
  have hc0 : 0 ≤ by_ := hby.1
  have hc1 : by_ ≤ 65535 := hby.2
  have r2 : Int.tmod by_ 1000 = by_ % 1000 := tmod_pos hc0 1000
  have hc2 : 0 ≤ by_ % 1000 := Int.emod_nonneg _ (by decide)
  have hc3 : by_ % 1000 < 1000 := Int.emod_lt_of_pos _ (by decide)
  obtain ⟨cc, HC⟩ : ∃ cc, Hid (by_ % 1000 = cc) := ⟨_, rfl⟩
  rw [HC.out] at r2 hc2 hc3
  clear hn hM hz hu hby
  go_enter Tryd.func5, Tryd.ntmps5
  go_wp2_with fail
  with_reducible refine (points_ok w k (by omega) ao len cap b off z HZ.out hlen HU.out).mono ?_
  rintro e w1 ⟨rfl, hblk, hb1⟩
  have HD1 := Lib.hid hblk
  have HB1 := Lib.hid hb1
  have HCK := Lib.hid (pts_check (n := k) (by omega) z)
  have HLen := Lib.hid (pts_len k z)
  have hlt0 := hblk.lt
  clear hblk hb1 HZ HU
  obtain ⟨db, HDB⟩ : ∃ db, Hid (w.heap.size = db) := ⟨_, rfl⟩
  rw [HDB.out] at HD1 hlt0 ⊢
  generalize ptsL k z = L at *
  have hnn : k * k ≤ 900 := Nat.mul_le_mul (show k ≤ 30 by omega) (show k ≤ 30 by omega)
  obtain ⟨nn, HNN⟩ : ∃ nn, Hid (k * k = nn) := ⟨_, rfl⟩
  rw [HNN.out] at HLen hnn ⊢
  go_wp2_with (at_make; refine wpList_makeB 2 (.int .i64 0) 8 Tryd.underlying23 Tryd.infoI64V rfl _ _ _ _ nn rfl rfl rfl rfl (by omega) (by unfold maxLen; omega) ?_; intro w2 B2 hb2)
  have HD2 := Lib.hid (HD1.out.below hb2 hlt0)
  have HB2 := Lib.hid (bel_then HB1.out hb2)
  have HM2 := Lib.hid B2
  have hlt1 := B2.lt
  have hne : db ≠ w1.heap.size := by omega
  clear B2 hb2 HD1 HB1
  obtain ⟨mb, HMB⟩ : ∃ mb, Hid (w1.heap.size = mb) := ⟨_, rfl⟩
  rw [HMB.out] at HM2 hlt1 hne hlt0 ⊢
  have hmb : w.heap.size ≤ mb := by rw [HDB.out]; omega
  have hdb : w.heap.size ≤ db := by rw [HDB.out]; omega
  go_loopw [36] (fun s wr => ∃ i : Nat, i ≤ nn ∧ s = .int .i64 i ∧ Blk wr db 2 ((upTo (· % 1073741825) id L i).map fun y => .int .i64 y) ∧ Blk wr mb 2 ((upTo (fun x => x % 1073741825 * (1 + cc)) (fun _ => 0) L i).map fun y => .int .i64 y) ∧ Below w.heap.size w wr) (fun s _ => nn - (intOf s).toNat)
  case atStart =>
    refine ⟨0, Nat.zero_le _, rfl, ?_, ?_, HB2.out⟩
    · rw [upTo_zero, List.map_id]; exact HD2.out
    · rw [upTo_zero]
      have := HM2.out
      rw [← HLen.out] at this
      rw [List.map_map, show ((fun y => Value.int IntKind.i64 y) ∘ fun _ => (0 : Int)) = fun _ => Value.int .i64 0 from rfl, List.map_const']
      exact this
  case round =>
    obtain ⟨i, hi, rfl, hd, hm, hb⟩ := hrel
    clear HD2 HM2 HB2
    have HD := Lib.hid hd
    have HMo := Lib.hid hm
    have HB := Lib.hid hb
    clear hd hm hb
    by_cases hin : i < nn
    · have hiL : i < L.length := by rw [HLen.out]; exact hin
      have c0 := blk_int HD.out (i := i) (by rw [upTo_length _ _ _ _ (by omega)]; exact hiL)
      have f0 := HD.out.free i
      have c1 := blk_int HMo.out (i := i) (by rw [upTo_length _ _ _ _ (by omega)]; exact hiL)
      have f1 := HMo.out.free i
      rw [upTo_at _ _ hiL] at c0 c1
      simp only [id] at c0
      have hx : 0 ≤ L.getD i 0 ∧ L.getD i 0 ≤ 1099511627776 := by
        have := (DOk.of_check HCK.out).lim 0 i
        unfold at2 at this
        rw [Nat.zero_mul, Nat.zero_add] at this
        exact this
      obtain ⟨x, HX⟩ : ∃ x, Hid (L.getD i 0 = x) := ⟨_, rfl⟩
      rw [HX.out] at c0 hx
      obtain ⟨hx0, hx1⟩ := hx
      have r3 : Int.tmod x 1073741825 = x % 1073741825 := tmod_pos hx0 _
      have hx2 : 0 ≤ x % 1073741825 := Int.emod_nonneg _ (by decide)
      have hx3 : x % 1073741825 < 1073741825 := Int.emod_lt_of_pos _ (by decide)
      obtain ⟨y, HY⟩ : ∃ y, Hid (x % 1073741825 = y) := ⟨_, rfl⟩
      rw [HY.out] at r3 hx2 hx3
      have hy1 : 0 ≤ y * (1 + cc) := Int.mul_nonneg hx2 (by omega)
      have hy2 : y * (1 + cc) ≤ 1073741825 * 1000 := Int.mul_le_mul (by omega) (by omega) (by omega) (by omega)
      go_wp2_with fail
      go_roundw
      case rel =>
        refine ⟨i + 1, by omega, by go_num, ?_, ?_, (HB.out.setCell hdb _).setCell hmb _⟩
        · have := (blk_set_int HD.out i y).other ⟨mb, i, none⟩ (.int .i64 (y * (1 + cc))) hne
          rw [← HY.out, ← HX.out, upTo_step (fun x => x % 1073741825) _ hiL] at this
          rw [← HY.out, ← HX.out]
          exact this
        · have := blk_set_int (HMo.out.other ⟨db, i, none⟩ (.int .i64 y) (fun e => hne e.symm)) i (y * (1 + cc))
          rw [← HY.out, ← HX.out, upTo_step (fun x => x % 1073741825 * (1 + cc)) _ hiL] at this
          rw [← HY.out, ← HX.out]
          exact this
      case measure => simp [intOf]; omega
    · have hie : i = nn := by omega
      have hme := HMe.out.below HB.out HMe.out.lt
      have m0 := hme.c0
      have m1 := hme.c1
      have m2 := hme.c2
      clear hme
      have HD' : Hid (InRow .i64 wr (some ⟨db, 0, none⟩) nn db 0 (L.map (· % 1073741825))) := by
        show InRow _ _ _ _ _ _ _
        have := HD.out
        rw [hie, ← HLen.out, upTo_end] at this
        have := InRow.of_blk this
        rw [List.length_map, HLen.out] at this
        exact this
      have HE' : Hid (InRow .i64 wr (some ⟨mb, 0, none⟩) nn mb 0 ((L.map (· % 1073741825)).map (· * (1 + cc)))) := by
        show InRow _ _ _ _ _ _ _
        have := HMo.out
        rw [hie, ← HLen.out, upTo_end] at this
        have := InRow.of_blk this
        rw [List.length_map, HLen.out] at this
        rw [List.map_map]
        exact this
      have hir : ¬ (i : Int) < (nn : Int) := by omega
      clear HD HMo hie
      go_wp2_with fail
      clear m0 m1 m2
      have HK1 := Lib.hid (check_map (f := (· % 1073741825)) HCK.out rfl (fun x hx => ⟨Int.emod_nonneg _ (by decide), by have := Int.emod_lt_of_pos x (show (0 : Int) < 1073741825 by decide); omega⟩))
      have HK2 : Hid (checkL (k : Int) ((L.map (· % 1073741825)).map (· * (1 + cc))) = 0) := by
        show checkL _ _ = 0
        rw [List.map_map]
        exact check_map (f := (· * (1 + cc)) ∘ (· % 1073741825)) HCK.out (by simp) (fun x hx => by
          have h1 : 0 ≤ x % 1073741825 := Int.emod_nonneg _ (by decide)
          have h2 := Int.emod_lt_of_pos x (show (0 : Int) < 1073741825 by decide)
          have h3 : x % 1073741825 * (1 + cc) ≤ 1073741825 * 1000 := Int.mul_le_mul (by omega) (by omega) (by omega) (by omega)
          have h4 : 0 ≤ x % 1073741825 * (1 + cc) := Int.mul_nonneg h1 (by omega)
          exact ⟨h4, Int.le_trans h3 (by decide)⟩)
      have HLIM : Hid (∀ i j, 0 ≤ at2 k (L.map (· % 1073741825)) i j ∧ at2 k (L.map (· % 1073741825)) i j ≤ 1073741824) := by
        show ∀ i j, _
        intro i j
        rw [at2_map (f := (· % 1073741825)) rfl]
        have h1 : 0 ≤ at2 k L i j % 1073741825 := Int.emod_nonneg _ (by decide)
        have h2 := Int.emod_lt_of_pos (at2 k L i j) (show (0 : Int) < 1073741825 by decide)
        exact ⟨h1, by omega⟩
      generalize L.map (· % 1073741825) = d1 at *
      generalize hd2 : d1.map (· * (1 + cc)) = d2 at *
      have HD2 := Lib.hid hd2
      clear hd2
      go_loopw [56] (fun s wr => ∃ i : Nat, i ≤ 3 ∧ s = .int .i64 i ∧ Below w.heap.size w wr ∧ InRow .i64 wr (some ⟨db, 0, none⟩) nn db 0 d1 ∧ InRow .i64 wr (some ⟨mb, 0, none⟩) nn mb 0 d2) (fun s _ => 3 - (intOf s).toNat)
      case atStart => exact ⟨0, Nat.zero_le _, rfl, HB.out, HD'.out, HE'.out⟩
      case round =>
        obtain ⟨q, hq, rfl, hb, hd, he⟩ := hrel
        clear HB HD' HE'
        have HB := Lib.hid hb
        have HD := Lib.hid hd
        have HE := Lib.hid he
        clear hb hd he
        by_cases hq3 : q < 3
        · obtain ⟨m, hm, hidx⟩ := met_index hq3
          have HM := Lib.hid hm
          clear hm
          go_wp2_with fail
          clear hidx
          with_reducible refine (run_ok _ k m HM.out (some ⟨db, 0, none⟩) nn nn db 0 d1 HD.out (fun h => by cases h) HNN.out.symm (by omega) HK1.out).mono ?_
          rintro e w2 ⟨v2, rfl, ho2, hb2, _⟩
          obtain ⟨o2, c2, b2, rfl, hr2⟩ := row_merges ho2
          have HE2 := Lib.hid (HE.out.below hb2)
          have HDD := Lib.hid (HD.out.below hb2)
          have HR2 := Lib.hid hr2
          have HB2 := Lib.hid (bel_then HB.out hb2)
          clear ho2 hb2 hr2 HD HB HE
          go_wp2_with fail
          with_reducible refine (run_ok _ k m HM.out (some ⟨mb, 0, none⟩) nn nn mb 0 d2 HE2.out (fun h => by cases h) HNN.out.symm (by omega) HK2.out).mono ?_
          rintro e w3 ⟨v3, rfl, ho3, hb3, _⟩
          obtain ⟨o3, c3, b3, rfl, hr3⟩ := row_merges ho3
          have HE3 := Lib.hid (HE2.out.below hb3)
          have HDD3 := Lib.hid (HDD.out.below hb3)
          have HR2' := Lib.hid (HR2.out.below hb3)
          have HR3 := Lib.hid hr3
          have HB3 := Lib.hid (bel_then HB2.out hb3)
          clear ho3 hb3 hr3 HE2 HDD HR2 HB2
          obtain ⟨k1, HK1'⟩ : ∃ k1, Hid (k - 1 = k1) := ⟨_, rfl⟩
          have hk1 : k1 ≤ 30 := by have := HK1'.out; omega
          rw [HK1'.out] at HR2' HR3 ⊢
          simp only [HK1'.out]
          go_wp2_with fail
          go_loopw [88] (fun s wr => ∃ j : Nat, j ≤ k1 ∧ s = .int .i64 j ∧ Below w3.heap.size w3 wr) (fun s _ => k1 - (intOf s).toNat)
          case atStart => exact ⟨0, Nat.zero_le _, rfl, Below.refl _ _⟩
          case round =>
            obtain ⟨j, hj, rfl, hb⟩ := hrel
            have HBj := Lib.hid hb
            clear hb
            by_cases hjk : j < k1
            · obtain rfl := HR2'.out.adr (by omega)
              obtain rfl := HR3.out.adr (by omega)
              obtain ⟨c0, c1, c2', c3', c4⟩ := (HR2'.out.below HBj.out).cell j hjk
              obtain ⟨e0, e1, e2, e3, e4⟩ := (HR3.out.below HBj.out).cell j hjk
              have hsc := scale_at (n := k) (m := m) (c := 1 + cc) (d := d1) (by omega) (DOk.of_check HK1.out) (DOk.of_check (by rw [HD2.out]; exact HK2.out)) HM.out (i := j) (by have := HK1'.out; omega)
              rw [HD2.out] at hsc
              obtain ⟨A, B, N, D, N', D', s, q1, q2, q3, ⟨q4, q5, q6, q7, q8, q9⟩, AA, BB, g1, g2, g3, g4, g5⟩ := hsc
              rw [q1] at c0 c1 c2' c3' c4
              rw [q2] at e0 e1 e2 e3 e4
              simp only [Nat.zero_add] at c0 c1 c2' c3' c4 e0 e1 e2 e3 e4
              clear q1 q2
              have hg1 := (gap_bounds (m := m) (M := 1073741824) (n := k) (d := d1) (by decide) HLIM.out AA BB).2
              have hll : AA.length * BB.length ≤ 30 * 30 := Nat.mul_le_mul (by omega) (by omega)
              have hg2 : gap m k d2 AA BB = gap m k d1 AA BB * (1 + cc) := by
                rw [← HD2.out]
                exact gap_map (f := fun x => x * (1 + cc)) (Int.zero_mul _) (mixE_scale (by omega)) g1 g2
              have hkk : (k : Int) * (k : Int) ≤ 900 := by
                have : ((k * k : Nat) : Int) = (k : Int) * k := Int.natCast_mul _ _
                have h2 := HNN.out
                omega
              have hG : gap m k d1 AA BB ≤ 966367641600 := by
                refine Int.le_trans hg1 ?_
                generalize AA.length * BB.length = p at hll
                omega
              have hG0 : 0 ≤ gap m k d1 AA BB := Int.le_trans q4 g4
              have bN : N ≤ 966367641600 := Int.le_trans g4 hG
              have bD : D ≤ 900 := Int.le_trans q8 hkk
              have bD' : D' ≤ 900 := Int.le_trans q9 hkk
              have bN' : N' ≤ 966367641600000 := by
                refine Int.le_trans g5 ?_
                rw [hg2]
                exact Int.le_trans (Int.mul_le_mul hG (show 1 + cc ≤ 1000 by omega) (by omega) (by decide)) (by decide)
              have b1 : N * (1 + cc) ≤ 966367641600000 := Int.le_trans (Int.mul_le_mul bN (show 1 + cc ≤ 1000 by omega) (by omega) (by decide)) (by decide)
              have b1' : 0 ≤ N * (1 + cc) := Int.mul_nonneg q4 (by omega)
              have b2' : N * (1 + cc) * D' ≤ 869730877440000000 := Int.le_trans (Int.mul_le_mul b1 bD' (by omega) (by decide)) (by decide)
              have b2'' : 0 ≤ N * (1 + cc) * D' := Int.mul_nonneg b1' (by omega)
              clear g1 g2 g3 g4 g5 hg1 hll hg2 hkk hG hG0 q8 q9
              obtain ⟨P1, hP1⟩ : ∃ P1, N * (1 + cc) = P1 := ⟨_, rfl⟩
              rw [hP1] at q3 b1 b1' b2' b2''
              obtain ⟨P2, hP2⟩ : ∃ P2, P1 * D' = P2 := ⟨_, rfl⟩
              rw [hP2] at q3 b2' b2''
              have hP3 : N' * D = P2 := q3.symm
              clear q3
              have hl2 : b2 < wr.heap.size := World.block_lt_of_cell? wr _ c0
              have hl3 : b3 < wr.heap.size := World.block_lt_of_cell? wr _ e0
              go_wp2_with fail
              go_region
              all_goals go_wp2_with fail
              · go_roundw
                case rel => exact ⟨j + 1, by omega, by go_num, by first | exact ((HBj.out.alloc HBj.out.size _).alloc (by have := HBj.out.size; simp; omega) _).drew | exact ((HBj.out.alloc HBj.out.size _).alloc (by have := HBj.out.size; simp; omega) _)⟩
                case measure => simp [intOf]; omega
              · go_roundw
                case rel => exact ⟨j + 1, by omega, by go_num, by first | exact ((HBj.out.alloc HBj.out.size _).alloc (by have := HBj.out.size; simp; omega) _).drew | exact ((HBj.out.alloc HBj.out.size _).alloc (by have := HBj.out.size; simp; omega) _)⟩
                case measure => simp [intOf]; omega
            · have hjr : j = k1 := by omega
              have hjr2 : ¬ (j : Int) < (k1 : Int) := by omega
              have HB4 := Lib.hid (bel_then HB3.out HBj.out)
              have HD4 := Lib.hid (HDD3.out.below HBj.out)
              have HE4 := Lib.hid (HE3.out.below HBj.out)
              clear hjr
              go_wp2_with fail
              go_roundw
              case rel => exact ⟨q + 1, by omega, by go_num, HB4.out, HD4.out, HE4.out⟩
              case measure => simp [intOf]; omega
        · obtain rfl : q = 3 := by omega
          go_wp2_with fail
          with_reducible refine (works_ok _).mono ?_
          rintro e w5 ⟨rfl, hb5⟩
          have HB5 := Lib.hid (bel_then HB.out hb5)
          clear hb5
          go_wp2_with fail
          go_ret
          exact ⟨rfl, HB5.out⟩

end Go.Proofs.YthhddjknjnjbhaaDoor
