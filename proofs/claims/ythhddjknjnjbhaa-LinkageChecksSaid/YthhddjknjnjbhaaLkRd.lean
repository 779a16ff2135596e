/- The reference of layer 23: distance. -/
import Derived.Test.YthhddjknjnjbhaaLkRc
namespace Go.Proofs.Ythhddjknjnjbhaa
set_option linter.unusedVariables false
set_option linter.unusedSimpArgs false
open Go.RowKit

set_option maxHeartbeats 8000000 in
set_option maxRecDepth 100000 in
theorem rdist_ok (w : World) (k : Nat) (m : Int) (hm : m = 1 ∨ m = 2 ∨ m = 3) (ao : Option Addr) (len cap b off : Nat) (d : List Int) (hz : InRow .i64 w ao len b off d) (hd : DOk k d)
    (xo yo : Option Addr) (la lb ca cb pa pb oa ob : Nat) (xs ys : List Int) (hx : InRow .i64 w xo la pa oa xs) (hy : InRow .i64 w yo lb pb ob ys) (hla : la ≤ 128) (hlb : lb ≤ 128) (hx0 : 0 < la) (hy0 : 0 < lb) (hbx : inB k xs) (hby : inB k ys) :
    Calls Try.prog 26 #[.int .i64 k, .slice ao len cap, .int .i64 m, .slice xo la ca, .slice yo lb cb] w
      (RetB (.agg #[.int .i64 (distR m k d (toN xs) (toN ys)).1, .int .i64 (distR m k d (toN xs) (toN ys)).2]) w) := by
  obtain rfl := hx.adr hx0
  obtain rfl := hy.adr hy0
  have hk := hd.hn
  have hlx : (toN xs).length = la := by simp only [toN, List.length_map]; exact hx.size
  have hly : (toN ys).length = lb := by simp only [toN, List.length_map]; exact hy.size
  have ga := toN_getD hbx (i := 0) (by rw [hx.size]; exact hx0)
  have gb := toN_getD hby (i := 0) (by rw [hy.size]; exact hy0)
  have HLL : Hid (len = k * k) := by rw [← hz.size]; exact hd.len
  have hlz : 0 < len := by rw [HLL.out]; exact Nat.mul_pos (by omega) (by omega)
  obtain rfl := hz.adr hlz
  have hlb2 : len ≤ 16384 := by rw [HLL.out]; exact Nat.mul_le_mul hk hk
  have HZ := Lib.hid hz
  have HX := Lib.hid hx
  have HY := Lib.hid hy
  have HD := Lib.hid hd
  have HM := Lib.hid hm
  have HBX := Lib.hid hbx
  have HBY := Lib.hid hby
  have HLX := Lib.hid hlx
  have HLY := Lib.hid hly
  clear hz hx hy hd hm hbx hby hlx hly
  go_enter Try.func26, Try.ntmps26
  go_upto_region 1 with fail
  generalize hW : World.alloc w _ = W
  have B0 : Hid (Blk W w.heap.size 38 [.int .i64 0, .int .i64 0]) := by show Blk _ _ _ _; rw [← hW]; exact Blk.new w _ _
  have HB : Hid (Below w.heap.size w W) := by show Below _ _ _; rw [← hW]; exact (Below.refl _ _).alloc (Nat.le_refl _) _
  clear hW
  have c0 := (HX.out.below HB.out).cell 0 hx0
  have c1 := (HY.out.below HB.out).cell 0 hy0
  rw [← ga.1, Nat.add_zero] at c0
  rw [← gb.1, Nat.add_zero] at c1
  have hix : (toN xs).getD 0 0 * k + (toN ys).getD 0 0 < len := by rw [HLL.out]; exact idx_lt ga.2 gb.2
  have c2 := (HZ.out.below HB.out).cell _ hix
  have HV0 : Hid (∀ m, visA m k d (toN xs) (toN ys) 0 0 = d.getD ((toN xs).getD 0 0 * k + (toN ys).getD 0 0) 0) := fun m => rfl
  obtain ⟨a0, HA0⟩ : ∃ a0, Hid ((toN xs).getD 0 0 = a0) := ⟨_, rfl⟩
  obtain ⟨b0, HB0⟩ : ∃ b0, Hid ((toN ys).getD 0 0 = b0) := ⟨_, rfl⟩
  rw [HA0.out] at c0 c2 hix HV0
  rw [HB0.out] at c1 c2 hix HV0
  have e1 : (a0 : Int) * (k : Int) = ((a0 * k : Nat) : Int) := by rw [Int.natCast_mul]
  generalize a0 * k = ak at *
  obtain ⟨ix, hixe⟩ : ∃ ix, ak + b0 = ix := ⟨_, rfl⟩
  have w0 : (ak : Int) + (b0 : Int) = (ix : Int) := by omega
  rw [hixe] at hix c2 HV0
  have i1 : (ix : Int) < (len : Int) := by omega
  have i2 : (0 : Int) < (la : Int) := by omega
  have i3 : (0 : Int) < (lb : Int) := by omega
  have v1 : IntKind.i64.wrap (ak : Int) = (ak : Int) := IntWalk.i64_in _ (by omega)
  have v2 : IntKind.i64.wrap (ix : Int) = (ix : Int) := IntWalk.i64_in _ (by omega)
  clear hixe ga gb
  generalize d.getD ix 0 = z0 at c2 HV0
  go_quiet (fail)
  have HB3 : Hid (Below w.heap.size w (W.drewN nq)) := bel_drewN HB.out _
  have B3 : Hid (Blk (W.drewN nq) w.heap.size 38 [.int .i64 0, .int .i64 0]) := B0.out.drewN _
  generalize World.drewN _ nq = w3 at *
  go_wp2_with fail
  clear c0 c1 c2 e1 w0 v1 v2 i1 hix B0 HB
  have HST : Hid (Value.int .i64 z0 = Value.int .i64 (visA 1 k d (toN xs) (toN ys) 0 0) ∧ Value.int .i64 z0 = Value.int .i64 (visA 2 k d (toN xs) (toN ys) 0 0)) := ⟨by rw [HV0.out], by rw [HV0.out]⟩
  clear HV0 HA0 HB0
  go_loopw [11, 12, 13, 14] (fun s11 s12 s13 s14 wr => ∃ i : Nat, i ≤ la ∧ s14 = .int .i64 i ∧ s11 = .int .i64 (visA 1 k d (toN xs) (toN ys) i 0) ∧ s12 = .int .i64 (visA 2 k d (toN xs) (toN ys) i 0) ∧ s13 = .int .i64 (visS k d (toN xs) (toN ys) i 0) ∧ Mod (fun _ => False) w3 wr) (fun _ _ _ s _ => la - (intOf s).toNat)
  case atStart => exact ⟨0, Nat.zero_le _, rfl, HST.out.1, HST.out.2, rfl, Mod.refl _ _⟩
  case round =>
    obtain ⟨i, hi, rfl, rfl, rfl, rfl, hmm⟩ := hrel
    have HMM := Lib.hid hmm
    clear hmm
    by_cases hil : i < la
    · have t0 : (i : Int) < (la : Int) := by omega
      go_wp2_with fail
      obtain ⟨wq, rfl⟩ : ∃ wq : World, wq = wr := ⟨_, rfl⟩
      go_loopw [11, 12, 13, 15] (fun s11 s12 s13 s15 wr => ∃ j : Nat, j ≤ lb ∧ s15 = .int .i64 j ∧ s11 = .int .i64 (visA 1 k d (toN xs) (toN ys) i j) ∧ s12 = .int .i64 (visA 2 k d (toN xs) (toN ys) i j) ∧ s13 = .int .i64 (visS k d (toN xs) (toN ys) i j) ∧ Mod (fun _ => False) w3 wr) (fun _ _ _ s _ => lb - (intOf s).toNat)
      case atStart => exact ⟨0, Nat.zero_le _, rfl, rfl, rfl, rfl, HMM.out⟩
      case round =>
        obtain ⟨j, hj, rfl, rfl, rfl, rfl, hmm⟩ := hrel
        clear HMM
        have HMM := Lib.hid hmm
        have HBR : Hid (Below w.heap.size w wr) := HB3.out.trans (hmm.below HB3.out.size (fun _ h => h.elim))
        clear hmm
        by_cases hjl : j < lb
        · have t1 : (j : Int) < (lb : Int) := by omega
          have gi := toN_getD HBX.out (i := i) (by rw [HX.out.size]; exact hil)
          have gj := toN_getD HBY.out (i := j) (by rw [HY.out.size]; exact hjl)
          have c0 := (HX.out.below HBR.out).cell i hil
          have c1 := (HY.out.below HBR.out).cell j hjl
          rw [← gi.1] at c0
          rw [← gj.1] at c1
          have H1 := Lib.hid (visA_min (n := k) (d := d) (a := toN xs) (b := toN ys) (i := i) (j := j) (by rw [HLX.out]; exact hil) (by rw [HLY.out]; exact hjl))
          have H2 := Lib.hid (visA_max (n := k) (d := d) (a := toN xs) (b := toN ys) (i := i) (j := j) (by rw [HLX.out]; exact hil) (by rw [HLY.out]; exact hjl))
          have H3 := Lib.hid (visS_step (n := k) (d := d) (a := toN xs) (b := toN ys) (i := i) (j := j) (by rw [HLX.out]; exact hil) (by rw [HLY.out]; exact hjl))
          have hsl := visS_lim HD.out (a := toN xs) (b := toN ys) (i := i) (j := j) (by rw [HLX.out]; exact hla) (by rw [HLY.out]; exact hlb) (by rw [HLX.out]; exact hil) (by rw [HLY.out]; exact hj)
          have hll := HD.out.lim ((toN xs).getD i 0) ((toN ys).getD j 0)
          obtain ⟨xi, HXI⟩ : ∃ xi, Hid ((toN xs).getD i 0 = xi) := ⟨_, rfl⟩
          obtain ⟨yj, HYJ⟩ : ∃ yj, Hid ((toN ys).getD j 0 = yj) := ⟨_, rfl⟩
          rw [HXI.out] at c0 gi H1 H2 H3 hll
          rw [HYJ.out] at c1 gj H1 H2 H3 hll
          have hxi := gi.2
          have hyj := gj.2
          clear gi gj
          have hix : xi * k + yj < len := by rw [HLL.out]; exact idx_lt hxi hyj
          have c2 := (HZ.out.below HBR.out).cell _ hix
          have HAT : Hid (at2 k d xi yj = d.getD (xi * k + yj) 0) := rfl
          have e1 : (xi : Int) * (k : Int) = ((xi * k : Nat) : Int) := by rw [Int.natCast_mul]
          generalize xi * k = xk at *
          obtain ⟨iy, hiy⟩ : ∃ iy, xk + yj = iy := ⟨_, rfl⟩
          have w0 : (xk : Int) + (yj : Int) = (iy : Int) := by omega
          rw [hiy] at hix c2 HAT
          have i1 : (iy : Int) < (len : Int) := by omega
          have v1 : IntKind.i64.wrap (xk : Int) = (xk : Int) := IntWalk.i64_in _ (by omega)
          have v2 : IntKind.i64.wrap (iy : Int) = (iy : Int) := IntWalk.i64_in _ (by omega)
          rw [← HAT.out] at c2
          clear hiy HAT
          generalize at2 k d xi yj = dz at *
          generalize visA 1 k d (toN xs) (toN ys) i j = lo at *
          generalize visA 2 k d (toN xs) (toN ys) i j = hg at *
          generalize visS k d (toN xs) (toN ys) i j = sm at *
          go_wp2_with fail
          go_quiet (fail)
          clear c0 c1 c2 e1 w0 v1 v2 i1
          by_cases hlo : dz < lo
          · have t2 : decide (dz < lo) = true := by simp [hlo]
            have HLO : Hid (min lo dz = dz) := by show _ = _; omega
            by_cases hhi : hg < dz
            · have t3 : decide (hg < dz) = true := by simp [hhi]
              have HHI : Hid (max hg dz = dz) := by show _ = _; omega
              clear hlo hhi
              go_wp2_with fail
              go_roundw
              case rel => exact ⟨j + 1, by omega, by go_num, by rw [H1.out, HLO.out], by rw [H2.out, HHI.out], by rw [H3.out], HMM.out.drewN _⟩
              case measure => simp [intOf]; omega
            · have t3 : decide (hg < dz) = false := by simp; omega
              have HHI : Hid (max hg dz = hg) := by show _ = _; omega
              clear hlo hhi
              go_wp2_with fail
              go_roundw
              case rel => exact ⟨j + 1, by omega, by go_num, by rw [H1.out, HLO.out], by rw [H2.out, HHI.out], by rw [H3.out], HMM.out.drewN _⟩
              case measure => simp [intOf]; omega
          · have t2 : decide (dz < lo) = false := by simp; omega
            have HLO : Hid (min lo dz = lo) := by show _ = _; omega
            by_cases hhi : hg < dz
            · have t3 : decide (hg < dz) = true := by simp [hhi]
              have HHI : Hid (max hg dz = dz) := by show _ = _; omega
              clear hlo hhi
              go_wp2_with fail
              go_roundw
              case rel => exact ⟨j + 1, by omega, by go_num, by rw [H1.out, HLO.out], by rw [H2.out, HHI.out], by rw [H3.out], HMM.out.drewN _⟩
              case measure => simp [intOf]; omega
            · have t3 : decide (hg < dz) = false := by simp; omega
              have HHI : Hid (max hg dz = hg) := by show _ = _; omega
              clear hlo hhi
              go_wp2_with fail
              go_roundw
              case rel => exact ⟨j + 1, by omega, by go_num, by rw [H1.out, HLO.out], by rw [H2.out, HHI.out], by rw [H3.out], HMM.out.drewN _⟩
              case measure => simp [intOf]; omega
        · obtain rfl : lb = j := by omega
          have N1 : Hid (∀ m, visA m k d (toN xs) (toN ys) i lb = visA m k d (toN xs) (toN ys) (i + 1) 0) := fun m => by
            have := vis_nextA (m := m) (n := k) (d := d) (a := toN xs) (b := toN ys) (i := i) (by rw [HLX.out]; exact hil) (by rw [HLY.out]; exact hy0)
            rw [HLY.out] at this
            exact this
          have N2 : Hid (visS k d (toN xs) (toN ys) i lb = visS k d (toN xs) (toN ys) (i + 1) 0) := by
            have := vis_nextS (n := k) (d := d) (a := toN xs) (b := toN ys) (i := i) (by rw [HLX.out]; exact hil) (by rw [HLY.out]; exact hy0)
            rw [HLY.out] at this
            exact this
          go_wp2_with fail
          go_roundw
          case rel => exact ⟨i + 1, by omega, by go_num, by rw [N1.out], by rw [N1.out], by rw [N2.out], HMM.out⟩
          case measure => simp [intOf]; omega
    · obtain rfl : la = i := by omega
      have G1 : Hid (∀ m, visA m k d (toN xs) (toN ys) la 0 = gap m k d (toN xs) (toN ys)) := fun m => by
        unfold visA gap
        rw [if_neg (by omega), ← vis_end, HLX.out]
      have G2 : Hid (visS k d (toN xs) (toN ys) la 0 = gap 3 k d (toN xs) (toN ys)) := by
        show _ = _
        unfold visS gap
        rw [if_neg (by omega), ← vis_end, HLX.out]
      rw [G1.out, G1.out, G2.out]
      have hgl := gap_lim (m := 3) HD.out (l1 := toN xs) (l2 := toN ys) (by rw [HLX.out]; exact hla) (by rw [HLY.out]; exact hlb)
      have HBR : Hid (Below w.heap.size w wr) := HB3.out.trans (HMM.out.below HB3.out.size (fun _ h => h.elim))
      have B4 := Lib.hid (B3.out.mod HMM.out (fun h => h))
      have z1 := B4.out.cell (i := 0) rfl
      have z2 := B4.out.cell (i := 1) rfl
      have f0 := B4.out.free 0
      have f1 := B4.out.free 1
      clear G1 G2 HST
      by_cases h1 : m = 1
      · subst h1
        have HE : Hid (distR 1 k d (toN xs) (toN ys) = (gap 1 k d (toN xs) (toN ys), 1)) := by show _ = _; unfold distR; rw [if_neg (by omega)]
        generalize gap 1 k d (toN xs) (toN ys) = g1 at *
        generalize gap 2 k d (toN xs) (toN ys) = g2 at *
        generalize gap 3 k d (toN xs) (toN ys) = g3 at *
        go_wp2_with fail
        refine bodyPost_ret (v := .agg #[.int .i64 g1, .int .i64 1]) ?_ rfl ⟨by rw [HE.out], ?_⟩
        · simp [results, Try.results26, go_sem, z1, z2]
        · exact HBR.out.trans (Mod.below (F := fun x => x = w.heap.size) (((Mod.refl (fun x => x = w.heap.size) _).setCell ⟨w.heap.size, 0, none⟩ (fun _ => rfl) _).setCell ⟨w.heap.size, 1, none⟩ (fun _ => rfl) _) HBR.out.size (fun x hx => by have e : x = w.heap.size := hx; omega))
      · have t1 : (m == 1) = false := by simp [h1]
        by_cases h2 : m = 2
        · subst h2
          have HE : Hid (distR 2 k d (toN xs) (toN ys) = (gap 2 k d (toN xs) (toN ys), 1)) := by show _ = _; unfold distR; rw [if_neg (by omega)]
          clear h1
          generalize gap 1 k d (toN xs) (toN ys) = g1 at *
          generalize gap 2 k d (toN xs) (toN ys) = g2 at *
          generalize gap 3 k d (toN xs) (toN ys) = g3 at *
          go_wp2_with fail
          refine bodyPost_ret (v := .agg #[.int .i64 g2, .int .i64 1]) ?_ rfl ⟨by rw [HE.out], ?_⟩
          · simp [results, Try.results26, go_sem, z1, z2]
          · exact HBR.out.trans (Mod.below (F := fun x => x = w.heap.size) (((Mod.refl (fun x => x = w.heap.size) _).setCell ⟨w.heap.size, 0, none⟩ (fun _ => rfl) _).setCell ⟨w.heap.size, 1, none⟩ (fun _ => rfl) _) HBR.out.size (fun x hx => by have e : x = w.heap.size := hx; omega))
        · have t2 : (m == 2) = false := by simp [h2]
          have h3 : m = 3 := by have := HM.out; omega
          subst h3
          have HE : Hid (distR 3 k d (toN xs) (toN ys) = (lowN (gap 3 k d (toN xs) (toN ys)) ((la * lb : Nat) : Int), lowD (gap 3 k d (toN xs) (toN ys)) ((la * lb : Nat) : Int))) := by
            show _ = _
            unfold distR
            rw [if_pos rfl, HLX.out, HLY.out]
          have hpos : 0 < la * lb := Nat.mul_pos hx0 hy0
          have hle : la * lb ≤ 128 * 128 := Nat.mul_le_mul hla hlb
          have e1 : (la : Int) * (lb : Int) = ((la * lb : Nat) : Int) := by rw [Int.natCast_mul]
          clear h1 h2
          generalize la * lb = ll at *
          generalize gap 1 k d (toN xs) (toN ys) = g1 at *
          generalize gap 2 k d (toN xs) (toN ys) = g2 at *
          generalize gap 3 k d (toN xs) (toN ys) = g3 at *
          go_wp2_with fail
          with_reducible refine (lowest_ok g3 ll ⟨hgl.1, by omega⟩ hpos (by omega) wr).mono ?_
          rintro e w4 ⟨rfl, hb4⟩
          have B5 := Lib.hid (B4.out.below hb4 B4.out.lt)
          have HB5 := Lib.hid (HBR.out.trans (hb4.mono HBR.out.size))
          clear hb4 z1 z2 f0 f1
          have z1 := B5.out.cell (i := 0) rfl
          have z2 := B5.out.cell (i := 1) rfl
          have f0 := B5.out.free 0
          have f1 := B5.out.free 1
          obtain ⟨p, HP⟩ : ∃ p, Hid (lowN g3 (ll : Int) = p) := ⟨_, rfl⟩
          obtain ⟨q, HQ⟩ : ∃ q, Hid (lowD g3 (ll : Int) = q) := ⟨_, rfl⟩
          rw [HP.out, HQ.out] at HE ⊢
          go_wp2_with fail
          refine bodyPost_ret (v := .agg #[.int .i64 p, .int .i64 q]) ?_ rfl ⟨by rw [HE.out], ?_⟩
          · simp [results, Try.results26, go_sem, z1, z2]
          · exact HB5.out.trans (Mod.below (F := fun x => x = w.heap.size) (((Mod.refl (fun x => x = w.heap.size) _).setCell ⟨w.heap.size, 0, none⟩ (fun _ => rfl) _).setCell ⟨w.heap.size, 1, none⟩ (fun _ => rfl) _) HB5.out.size (fun x hx => by have e : x = w.heap.size := hx; omega))

end Go.Proofs.Ythhddjknjnjbhaa
