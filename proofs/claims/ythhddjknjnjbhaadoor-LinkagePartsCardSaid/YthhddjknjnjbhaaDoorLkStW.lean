/- The walk of LinkageSteps. -/
import Derived.Test.YthhddjknjnjbhaaDoorLkPb
namespace Go.Proofs.YthhddjknjnjbhaaDoor
set_option linter.unusedVariables false
set_option linter.unusedSimpArgs false
open Go.RowKit

/-- The sizes of the clusters after i rounds. -/
def szR (k : Nat) (m : Int) (d : List Int) (i : Nat) : List Int := (List.range k).map fun x => ((CL (clS k m d i) x).length : Int)

theorem szR_length (k : Nat) (m : Int) (d : List Int) (i : Nat) : (szR k m d i).length = k := by simp [szR]

theorem szR_at {k : Nat} {m : Int} {d : List Int} {i x : Nat} (hx : x < k) : (szR k m d i).getD x 0 = ((CL (clS k m d i) x).length : Int) := by
  unfold szR
  rw [List.getD_eq_getElem?_getD, List.getElem?_map, List.getElem?_range hx]
  rfl

theorem szR_zero (k : Nat) (m : Int) (d : List Int) : szR k m d 0 = List.replicate k 1 := by
  unfold szR
  apply List.ext_getElem?
  intro x
  rw [List.getElem?_map, List.getElem?_replicate]
  by_cases hx : x < k
  · rw [List.getElem?_range hx, if_pos hx]
    show some (((CL ((List.range k).map fun i => [i]) x).length : Nat) : Int) = _
    unfold CL
    rw [List.getD_eq_getElem?_getD, List.getElem?_map, List.getElem?_range hx]
    rfl
  · rw [List.getElem?_eq_none (by simp; omega), if_neg hx]
    rfl

theorem szR_next {k : Nat} {m : Int} {d : List Int} (hd : DOk k d) (hm : m = 1 ∨ m = 2 ∨ m = 3) {i a b : Nat} (hi : i + 1 < k) (h : Rd k m d i a b) :
    ((szR k m d i).set a (((CL (clS k m d i) a).length : Int) + ((CL (clS k m d i) b).length : Int))).set b 0 = szR k m d (i + 1) := by
  have inv := runS_inv hd hm i (by omega)
  have hab := h.lt
  have hb := h.hb
  apply List.ext_getElem?
  intro x
  by_cases hx : x < k
  · have e : (szR k m d (i + 1))[x]? = some ((CL (clS k m d (i + 1)) x).length : Int) := by
      unfold szR
      rw [List.getElem?_map, List.getElem?_range hx]; rfl
    rw [e, h.next, CL_clU (by rw [inv.len]; omega) (by rw [inv.len]; omega) (by omega)]
    by_cases e1 : x = b
    · subst e1
      rw [List.getElem?_set_self (by simp [szR]; omega), if_pos rfl]; rfl
    · rw [List.getElem?_set_ne (by omega), if_neg e1]
      by_cases e2 : x = a
      · subst e2
        rw [List.getElem?_set_self (by simp [szR]; omega), if_pos rfl, List.length_append, Int.natCast_add]
      · rw [List.getElem?_set_ne (by omega), if_neg e2]
        unfold szR
        rw [List.getElem?_map, List.getElem?_range hx]; rfl
  · rw [List.getElem?_eq_none (by simp [szR]; omega), List.getElem?_eq_none (by simp [szR]; omega)]

theorem ones_step {k j : Nat} (hj : j < k) : (List.replicate j (1 : Int) ++ List.replicate (k - j) 0).set j 1 = List.replicate (j + 1) 1 ++ List.replicate (k - (j + 1)) 0 := by
  rw [List.set_append_right _ _ (by simp), List.length_replicate, Nat.sub_self, show k - j = (k - (j + 1)) + 1 by omega, List.replicate_succ, List.set_cons_zero, List.replicate_succ', List.append_assoc]
  rfl

/-- What a height is. -/
structure HOk (N D : Int) : Prop where
  h1 : 1 ≤ D
  h2 : D ≤ 4096
  h3 : 0 ≤ N
  h4 : N ≤ 1099511627776 * D
  h5 : Nat.gcd N.toNat D.toNat = 1

theorem HOk.of {n : Nat} {m : Int} {d : List Int} (hn : n ≤ 64) (hm : m = 1 ∨ m = 2 ∨ m = 3) (hd : DOk n d) {A B : List Nat} (hA : A ≠ []) (hB : B ≠ []) (hl : A.length + B.length ≤ n) : HOk (lowN (gap m n d A B) (den m A B)) (lowD (gap m n d A B) (den m A B)) := by
  have hg := gap_le_den hm hd hA hB
  have he := den_pos (m := m) hA hB
  obtain ⟨k1, k2, k3, k4, k5, k6⟩ := low_same hg.1 he
  refine ⟨by omega, ?_, k2, ?_, k6⟩
  · rcases den_le (m := m) hl with h | h
    · have : n * n ≤ 64 * 64 := Nat.mul_le_mul hn hn
      omega
    · omega
  · apply Int.le_of_mul_le_mul_right (a := den m A B) _ he
    rw [k1, Int.mul_right_comm]
    exact Int.mul_le_mul_of_nonneg_right hg.2 (by omega)

theorem HOk.lim {N D : Int} (h : HOk N D) : N ≤ 9007199254740992 := by
  have := h.h4
  have := h.h2
  omega

set_option maxHeartbeats 4000000 in
set_option maxRecDepth 100000 in
theorem steps_law (n : Int) (hn : 0 ≤ n ∧ n ≤ 255) (ao : Option Addr) (len cap b off : Nat) (z : List Int) (w : World) (hM : Mets w)
    (hz : InRow .u64 w ao len b off z) (hlen : len ≤ 9223372036854775807) (hu : ∀ x ∈ z, 0 ≤ x ∧ x < 18446744073709551616) :
    Calls Tryd.prog 3 #[.int .u8 n, .slice ao len cap] w (RetB (.bool true) w) := by
  have HZ := Lib.hid hz
  have HU := Lib.hid hu
  have HMe := Lib.hid hM
  obtain ⟨n0, rfl⟩ := Int.eq_ofNat_of_zero_le hn.1
  have hn0 : n0 ≤ 255 := by omega
  have r1 : Int.tmod (n0 : Int) 61 = ((n0 % 61 : Nat) : Int) := mod_nat n0 61 (by omega)
  have hk : n0 % 61 < 61 := Nat.mod_lt _ (by omega)
  obtain ⟨k, HK⟩ : ∃ k, Hid (n0 % 61 = k) := ⟨_, rfl⟩
  rw [HK.out] at r1 hk
  clear hn hM hz hu
  go_enter Tryd.func3, Tryd.ntmps3
  go_wp2_with fail
  with_reducible refine (points_ok w k (by omega) ao len cap b off z HZ.out hlen HU.out).mono ?_
  rintro e w1 ⟨rfl, hblk, hb1⟩
  have HD1 := Lib.hid (pts_row hblk)
  have HB1 := Lib.hid hb1
  have hme := HMe.out.below hb1 HMe.out.lt
  have HCK := Lib.hid (pts_check (n := k) (by omega) z)
  clear hblk hb1 HZ HU
  generalize ptsL k z = d at *
  obtain ⟨db, HDB⟩ : ∃ db, Hid (w.heap.size = db) := ⟨_, rfl⟩
  simp only [HDB.out] at HD1 ⊢
  obtain ⟨nn, HNN⟩ : ∃ nn, Hid (k * k = nn) := ⟨_, rfl⟩
  rw [HNN.out] at HD1 ⊢
  have m0 := hme.c0
  have m1 := hme.c1
  have m2 := hme.c2
  clear hme
  go_wp2_with fail
  clear m0 m1 m2
  go_loopw [22] (fun s wr => ∃ i : Nat, i ≤ 3 ∧ s = .int .i64 i ∧ Below db w wr ∧ InRow .i64 wr (some ⟨db, 0, none⟩) nn db 0 d) (fun s _ => 3 - (intOf s).toNat)
  case atStart => exact ⟨0, Nat.zero_le _, rfl, by rw [← HDB.out]; exact HB1.out, HD1.out⟩
  case round =>
    obtain ⟨q, hq, rfl, hb, hd⟩ := hrel
    clear HB1 HD1
    have HB : Hid (Below w.heap.size w wr) := by show Below _ _ _; rw [HDB.out]; exact hb
    have HD := Lib.hid hd
    clear hb hd
    by_cases hq3 : q < 3
    · obtain ⟨m, hm, hidx⟩ := met_index hq3
      have HM := Lib.hid hm
      clear hm
      go_wp2_with fail
      clear hidx
      with_reducible refine (run_ok _ k m HM.out (some ⟨db, 0, none⟩) nn nn db 0 d HD.out (fun h => by cases h) HNN.out.symm (by omega) HCK.out).mono ?_
      rintro e w2 ⟨v2, rfl, ho2, hb2, _⟩
      obtain ⟨o2, c2, b2, rfl, hr2⟩ := row_merges ho2
      have HD2 := Lib.hid (HD.out.below hb2)
      have HR2 := Lib.hid hr2
      have HB2 := Lib.hid (bel_then HB.out hb2)
      clear ho2 hb2 hr2 HD HB
      obtain ⟨k1, HK1⟩ : ∃ k1, Hid (k - 1 = k1) := ⟨_, rfl⟩
      have hk1 : (k = 0 ∧ k1 = 0) ∨ k = k1 + 1 := by have := HK1.out; omega
      rw [HK1.out] at HR2 ⊢
      simp only [HK1.out]
      have hmax : ∀ w, (Builtin.max_ #[3, 3] 3 #[Value.int IntKind.i64 (k - 1), .int .i64 0]).run Tryd.prog w = .ok (.int .i64 k1) w := by
        intro w
        rcases hk1 with ⟨rfl, rfl⟩ | rfl
        · rfl
        · rw [show ((k1 + 1 : Nat) : Int) - 1 = (k1 : Int) by omega]
          cases k1 with
          | zero => rfl
          | succ q => rfl
      have hk1b : k1 ≤ 60 := by omega
      go_wp2_with (at_make; refine wpList_makeB 3 (.int .i64 0) 8 Tryd.underlying31 Tryd.infoInt rfl _ _ _ _ k rfl rfl rfl rfl (by omega) (by unfold maxLen; omega) ?_; intro w3 B3 hb3)
      clear hmax
      have HS3 := Lib.hid B3
      have HD3 := Lib.hid (HD2.out.below hb3)
      have HR3 := Lib.hid (HR2.out.below hb3)
      have HB3 := Lib.hid (bel_then HB2.out hb3)
      have hsb : w.heap.size ≤ w2.heap.size := HB2.out.size
      have HR0 : Hid (0 < k1 → b2 < w2.heap.size) := fun h => HR2.out.lt h
      have hdsb : 0 < nn → db < w2.heap.size := fun h => HD2.out.lt h
      clear B3 hb3 HD2 HR2
      obtain ⟨sb, HSB⟩ : ∃ sb, Hid (w2.heap.size = sb) := ⟨_, rfl⟩
      simp only [HSB.out] at HS3 hsb HR0 hdsb ⊢
      have HDSB := Lib.hid hdsb
      clear hdsb
      go_loopw [46] (fun s wr => ∃ j : Nat, j ≤ k ∧ s = .int .i64 j ∧ Blk wr sb 3 ((List.replicate j (1 : Int) ++ List.replicate (k - j) 0).map fun y => .int .i64 y) ∧ Mod (fun x => x = sb) w3 wr) (fun s _ => k - (intOf s).toNat)
      case atStart => exact ⟨0, Nat.zero_le _, rfl, by simpa using HS3.out, Mod.refl _ _⟩
      case round =>
        obtain ⟨j, hj, rfl, hbk, hmd⟩ := hrel
        have HBK := Lib.hid hbk
        have HMD := Lib.hid hmd
        clear hbk hmd
        by_cases hjk : j < k
        · have c0 := blk_int HBK.out (i := j) (by simp; omega)
          have f0 := HBK.out.free j
          go_wp2_with fail
          go_roundw
          case rel => exact ⟨j + 1, by omega, by go_num, by have := blk_set_int HBK.out j 1; rw [ones_step hjk] at this; exact this, HMD.out.setCell _ (fun _ => rfl) _⟩
          case measure => simp [intOf]; omega
        · have hj1 : j = k := by omega
          have hj2 : ¬ (j : Int) < (k : Int) := by omega
          have HBK' : Hid (Blk wr sb 3 ((szR k m d 0).map fun y => .int .i64 y)) := by
            show Blk _ _ _ _
            have := HBK.out
            rw [hj1, Nat.sub_self] at this
            rw [szR_zero]
            simpa using this
          clear HBK hj1
          have hlt3 : sb < w3.heap.size := HS3.out.lt
          go_wp2_with fail
          go_loopw [55] (fun s wr => ∃ i : Nat, i ≤ k1 ∧ s = .int .i64 i ∧ Blk wr sb 3 ((szR k m d i).map fun y => .int .i64 y) ∧ Mod (fun x => x = sb) w3 wr) (fun s _ => k1 - (intOf s).toNat)
          case atStart => exact ⟨0, Nat.zero_le _, rfl, HBK'.out, HMD.out⟩
          case round =>
            obtain ⟨i, hi, rfl, hbk, hmd⟩ := hrel
            clear HBK' HMD
            have HBK := Lib.hid hbk
            have HMD := Lib.hid hmd
            clear hbk hmd
            by_cases hik : i < k1
            · obtain ⟨a, b, hrd⟩ := rd_of (DOk.of_check HCK.out) HM.out (i := i) (by omega)
              have HRD := Lib.hid hrd
              have hab := hrd.lt
              have hbk := hrd.hb
              have hlen2 := (runS_inv (DOk.of_check HCK.out) HM.out i (by omega)).lens hab
              have HH := Lib.hid (HOk.of (n := k) (by omega) HM.out (DOk.of_check HCK.out) hrd.na hrd.nb hlen2)
              have HNX := Lib.hid (szR_next (DOk.of_check HCK.out) HM.out (by omega) hrd)
              have s1 := blk_int HBK.out (i := a) (by rw [szR_length]; omega)
              have s2 := blk_int HBK.out (i := b) (by rw [szR_length]; omega)
              have g1 := HBK.out.free a
              have g2 := HBK.out.free b
              rw [szR_at (by omega)] at s1 s2
              have hmr := HR3.out.mod HMD.out (fun h0 => by have := HR0.out h0; omega)
              obtain rfl := HR3.out.adr (by omega)
              obtain ⟨c0, c1, c2', c3', c4⟩ := hmr.cell i hik
              rw [hrd.mg] at c0 c1 c2' c3' c4
              simp only [Nat.zero_add] at c0 c1 c2' c3' c4
              have la := List.length_pos_iff.2 hrd.na
              have lb := List.length_pos_iff.2 hrd.nb
              clear hrd
              obtain ⟨LA, hLA⟩ : ∃ LA, (CL (clS k m d i) a).length = LA := ⟨_, rfl⟩
              obtain ⟨LB, hLB⟩ : ∃ LB, (CL (clS k m d i) b).length = LB := ⟨_, rfl⟩
              rw [hLA] at s1 c4 la hlen2 HNX
              rw [hLB] at s2 c4 lb hlen2 HNX
              obtain ⟨N, hN⟩ : ∃ N, lowN (gap m k d (CL (clS k m d i) a) (CL (clS k m d i) b)) (den m (CL (clS k m d i) a) (CL (clS k m d i) b)) = N := ⟨_, rfl⟩
              obtain ⟨D, hD⟩ : ∃ D, lowD (gap m k d (CL (clS k m d i) a) (CL (clS k m d i) b)) (den m (CL (clS k m d i) a) (CL (clS k m d i) b)) = D := ⟨_, rfl⟩
              rw [hN] at c2' HH
              rw [hD] at c3' HH
              have HLA := Lib.hid hLA
              have HLB := Lib.hid hLB
              have HN := Lib.hid hN
              have HDD := Lib.hid hD
              clear hLA hLB hN hD hmr
              have hl1 : sb < wr.heap.size := HBK.out.lt
              have hl2 : b2 < wr.heap.size := World.block_lt_of_cell? wr _ c0
              have t1 : ((LA : Int) == 0) = false := by simp; omega
              have t2 : ((LB : Int) == 0) = false := by simp; omega
              have t3 : (a : Int) < (b : Int) := by omega
              have t4 : (b : Int) < (k : Int) := by omega
              go_wp2_with fail
              generalize hW : World.alloc wr _ = W
              have X0 : W.cell? ⟨wr.heap.size, 0, none⟩ = some (.int .i64 a) := by rw [← hW]; exact (Blk.new wr 35 [.int .i64 a, .int .i64 b, .int .i64 N, .int .i64 D, .int .i64 (LA + LB)]).cell rfl
              have X1 : W.cell? ⟨wr.heap.size, 1, none⟩ = some (.int .i64 b) := by rw [← hW]; exact (Blk.new wr 35 [.int .i64 a, .int .i64 b, .int .i64 N, .int .i64 D, .int .i64 (LA + LB)]).cell rfl
              have X2 : W.cell? ⟨wr.heap.size, 2, none⟩ = some (.int .i64 N) := by rw [← hW]; exact (Blk.new wr 35 [.int .i64 a, .int .i64 b, .int .i64 N, .int .i64 D, .int .i64 (LA + LB)]).cell rfl
              have X3 : W.cell? ⟨wr.heap.size, 3, none⟩ = some (.int .i64 D) := by rw [← hW]; exact (Blk.new wr 35 [.int .i64 a, .int .i64 b, .int .i64 N, .int .i64 D, .int .i64 (LA + LB)]).cell rfl
              have X4 : W.cell? ⟨wr.heap.size, 4, none⟩ = some (.int .i64 (LA + LB)) := by rw [← hW]; exact (Blk.new wr 35 [.int .i64 a, .int .i64 b, .int .i64 N, .int .i64 D, .int .i64 (LA + LB)]).cell rfl
              have HWB : Hid (Below wr.heap.size wr W) := by show Below _ _ _; rw [← hW]; exact (Below.refl _ _).alloc (Nat.le_refl _) _
              have Y1 := (HWB.out.cell (p := ⟨sb, a, none⟩) hl1).trans s1
              have Y2 := (HWB.out.cell (p := ⟨sb, b, none⟩) hl1).trans s2
              obtain ⟨wb, HWB'⟩ : ∃ wb, Hid (wr.heap.size = wb) := ⟨_, rfl⟩
              rw [HWB'.out] at X0 X1 X2 X3 X4 ⊢
              clear hW c0 c1 c2' c3' c4 s1 s2
              have e1 : decide ((a : Int) < 0) = false := by simp
              have e2 : decide (b ≤ a) = false := by simp; omega
              have e3 : decide (k ≤ b) = false := by simp; omega
              have e4 : IntKind.i64.wrap ((LA : Int) + (LB : Int)) = (LA : Int) + (LB : Int) := IntWalk.i64_in _ (by omega)
              by_cases hi0 : i = 0
              · subst hi0
                have x0 := cell_regrown X0
                have x1 := cell_regrown X1
                have x2 := cell_regrown X2
                have x3 := cell_regrown X3
                have x4 := cell_regrown X4
                have y1 := cell_regrown Y1
                have y2 := cell_regrown Y2
                refine wp_region_quiet_below (by kernel_rfl) (by kernel_rfl) ?_
                repeat (go_big_quiet_step ((go_at_call 11; exact Calls.regrown_of ((proper_ok N D _ HH.out.h1 HH.out.h2 HH.out.h3 HH.out.h4 HH.out.h5).mono fun _ _ ⟨he, hb⟩ => ⟨he, hb⟩))))
                refine wpQuiet_nil ?_
                intro W2 hw2
                obtain ⟨⟨dq, osq⟩, hw3⟩ := hw2
                have hbg : Below W.heap.size W W2 := by rw [hw3]; exact below_regrown W dq osq
                clear hw3 x0 x1 x2 x3 x4 y1 y2
                have kp : ∀ {p : Addr} {v : Value}, W.cell? p = some v → W2.cell? p = some v := fun h => (hbg.cell (World.block_lt_of_cell? W _ h)).trans h
                have x0 := kp X0
                have x1 := kp X1
                have x4 := kp X4
                have y1 := kp Y1
                have y2 := kp Y2
                have hbk2 : Blk W2 sb 3 ((szR k m d 0).map fun y => .int .i64 y) := (HBK.out.below HWB.out hl1).below hbg (HBK.out.below HWB.out hl1).lt
                have g1' := hbk2.free a
                have g2' := hbk2.free b
                have HBK2 := Lib.hid hbk2
                have HMD2 := Lib.hid ((HMD.out.trans (Mod.of_below (F := fun _ => False) HWB.out) (fun _ _ h => h.elim)).trans (Mod.of_below (F := fun _ => False) hbg) (fun _ _ h => h.elim))
                clear hbk2
                clear kp X0 X1 X2 X3 X4 Y1 Y2
                have hak : a < k := by omega
                have hws : sb < wb := by rw [← HWB'.out]; exact hl1
                have hws2 : wb ≠ sb := by omega
                have hab2 : a ≠ b := by omega
                go_wp2_with fail
                go_region
                go_wp2_with fail
                go_roundw
                case rel =>
                  refine ⟨1, by omega, by first | rfl | go_num, ?_, ((HMD2.out.setCell _ (fun _ => rfl) _).setCell _ (fun _ => rfl) _).drew⟩
                  have := blk_set_int (blk_set_int HBK2.out a ((LA : Int) + LB)) b 0
                  rw [HNX.out] at this
                  exact this.drew
                case measure => simp [intOf]; omega
              · have hmr := HR3.out.mod HMD.out (fun h0 => by have := HR0.out h0; omega)
                obtain ⟨_, _, u2, u3, _⟩ := hmr.cell (i - 1) (by omega)
                obtain ⟨a', b', hrd'⟩ := rd_of (DOk.of_check HCK.out) HM.out (i := i - 1) (by omega)
                have hlen3 := (runS_inv (DOk.of_check HCK.out) HM.out (i - 1) (by omega)).lens hrd'.lt
                have HH' := Lib.hid (HOk.of (n := k) (by omega) HM.out (DOk.of_check HCK.out) hrd'.na hrd'.nb hlen3)
                have hgt := heights (DOk.of_check HCK.out) HM.out (i := i - 1) (by omega) hrd' (by rw [show i - 1 + 1 = i by omega]; exact HRD.out)
                rw [show i - 1 + 1 = i by omega] at hgt
                unfold fr at hgt
                rw [← lessB_low (gap_le_den HM.out (DOk.of_check HCK.out) HRD.out.na HRD.out.nb).1 (den_pos HRD.out.na HRD.out.nb) (gap_le_den HM.out (DOk.of_check HCK.out) hrd'.na hrd'.nb).1 (den_pos hrd'.na hrd'.nb), HN.out, HDD.out] at hgt
                rw [hrd'.mg] at u2 u3
                simp only [Nat.zero_add] at u2 u3
                obtain ⟨N', hN'⟩ : ∃ N', lowN (gap m k d (CL (clS k m d (i - 1)) a') (CL (clS k m d (i - 1)) b')) (den m (CL (clS k m d (i - 1)) a') (CL (clS k m d (i - 1)) b')) = N' := ⟨_, rfl⟩
                obtain ⟨D', hD'⟩ : ∃ D', lowD (gap m k d (CL (clS k m d (i - 1)) a') (CL (clS k m d (i - 1)) b')) (den m (CL (clS k m d (i - 1)) a') (CL (clS k m d (i - 1)) b')) = D' := ⟨_, rfl⟩
                rw [hN'] at u2 HH' hgt
                rw [hD'] at u3 HH' hgt
                have HLESS := Lib.hid hgt
                have U2 := (HWB.out.cell (p := ⟨b2, (i - 1) * 5 + 2, none⟩) hl2).trans u2
                have U3 := (HWB.out.cell (p := ⟨b2, (i - 1) * 5 + 3, none⟩) hl2).trans u3
                clear hmr hrd' hlen3 hgt u2 u3 hN' hD'
                obtain ⟨ip, hip⟩ : ∃ ip, i = ip + 1 := ⟨i - 1, by omega⟩
                rw [show i - 1 = ip by omega] at U2 U3
                have hip2 : (i : Int) - 1 = (ip : Int) := by omega
                have hip3 : decide (0 < i) = true := by simp; omega
                have hip4 : ip < k1 := by omega
                have HIP := Lib.hid hip
                clear hip hi0
                have x0 := cell_regrown X0
                have x1 := cell_regrown X1
                have x2 := cell_regrown X2
                have x3 := cell_regrown X3
                have x4 := cell_regrown X4
                have y1 := cell_regrown Y1
                have y2 := cell_regrown Y2
                have u2 := cell_regrown U2
                have u3 := cell_regrown U3
                refine wp_region_quiet_below (by kernel_rfl) (by kernel_rfl) ?_
                repeat (go_big_quiet_step (first | (go_at_call 11; exact Calls.regrown_of ((proper_ok N D _ HH.out.h1 HH.out.h2 HH.out.h3 HH.out.h4 HH.out.h5).mono fun _ _ ⟨he, hb⟩ => ⟨he, hb⟩)) | (go_at_call 12; exact Calls.regrown_of ((below_ok N D N' D' _ HH.out.h1 HH.out.h2 HH.out.h3 HH.out.lim HH'.out.h1 HH'.out.h2 HH'.out.h3 HH'.out.lim).mono fun _ _ ⟨he, hb⟩ => ⟨by rw [he, HLESS.out], hb⟩))))
                refine wpQuiet_nil ?_
                intro W2 hw2
                obtain ⟨⟨dq, osq⟩, hw3⟩ := hw2
                have hbg : Below W.heap.size W W2 := by rw [hw3]; exact below_regrown W dq osq
                clear hw3 x0 x1 x2 x3 x4 y1 y2 u2 u3 U2 U3 hip2
                have kp : ∀ {p : Addr} {v : Value}, W.cell? p = some v → W2.cell? p = some v := fun h => (hbg.cell (World.block_lt_of_cell? W _ h)).trans h
                have x0 := kp X0
                have x1 := kp X1
                have x4 := kp X4
                have y1 := kp Y1
                have y2 := kp Y2
                have hbk2 : Blk W2 sb 3 ((szR k m d i).map fun y => .int .i64 y) := (HBK.out.below HWB.out hl1).below hbg (HBK.out.below HWB.out hl1).lt
                have g1' := hbk2.free a
                have g2' := hbk2.free b
                have HBK2 := Lib.hid hbk2
                have HMD2 := Lib.hid ((HMD.out.trans (Mod.of_below (F := fun _ => False) HWB.out) (fun _ _ h => h.elim)).trans (Mod.of_below (F := fun _ => False) hbg) (fun _ _ h => h.elim))
                clear hbk2
                clear kp X0 X1 X2 X3 X4 Y1 Y2
                have hak : a < k := by omega
                have hws : sb < wb := by rw [← HWB'.out]; exact hl1
                have hws2 : wb ≠ sb := by omega
                have hab2 : a ≠ b := by omega
                go_wp2_with fail
                go_region
                go_wp2_with fail
                go_roundw
                case rel =>
                  refine ⟨i + 1, by omega, by first | rfl | go_num, ?_, ((HMD2.out.setCell _ (fun _ => rfl) _).setCell _ (fun _ => rfl) _).drew⟩
                  have := blk_set_int (blk_set_int HBK2.out a ((LA : Int) + LB)) b 0
                  rw [HNX.out] at this
                  exact this.drew
                case measure => simp [intOf]; omega
            · have hik2 : i = k1 := by omega
              have hik3 : ¬ (i : Int) < (k1 : Int) := by omega
              have HB4 : Hid (Below db w wr) := by
                show Below _ _ _
                rw [← HDB.out]
                exact HB3.out.trans (HMD.out.below (HB3.out.size) (fun x hx => by rw [hx]; exact hsb))
              have HD4 := Lib.hid (HD3.out.mod HMD.out (fun h0 => by have := HDSB.out h0; omega))
              by_cases hk0 : k = 0
              · have hk0' : decide (0 < k) = false := by simp; omega
                clear hk0
                go_wp2_with fail
                go_roundw
                case rel => exact ⟨q + 1, by omega, by go_num, HB4.out, HD4.out⟩
                case measure => simp [intOf]; omega
              · have hk0' : decide (0 < k) = true := by simp; omega
                have hk2 : 0 < k := by omega
                have s1 := blk_int HBK.out (i := 0) (by rw [szR_length]; omega)
                rw [szR_at hk2, hik2, (runS_inv (DOk.of_check HCK.out) HM.out k1 (by omega)).last hk2 (by omega)] at s1
                have t1 : ((k : Int) != (k : Int)) = false := by simp
                clear hk0 hik2
                go_wp2_with fail
                go_roundw
                case rel => exact ⟨q + 1, by omega, by go_num, HB4.out, HD4.out⟩
                case measure => simp [intOf]; omega
    · obtain rfl : q = 3 := by omega
      go_wp2_with fail
      with_reducible refine (works_ok _).mono ?_
      rintro e w5 ⟨rfl, hb5⟩
      have HB5 := Lib.hid (bel_then HB.out hb5)
      clear hb5
      go_wp2_with fail
      go_ret
      exact ⟨rfl, HB5.out⟩

end Go.Proofs.YthhddjknjnjbhaaDoor
