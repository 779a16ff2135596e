/- checked.Compare, linkage.less. -/
import Derived.Test.YthhddjknjnjbhaaDoorLkA
import Derived.Test.YthhddjknjnjbhaaDoorWhole
import Derived.Deep.RegionHeld3
import Derived.Deep.DeepCutAuto
namespace Go.Proofs.YthhddjknjnjbhaaDoor
set_option linter.unusedVariables false
set_option linter.unusedSimpArgs false
open Go.RowKit

def cmp3 (x y : Nat) : Int := if x < y then -1 else if y < x then 1 else 0

theorem Tryd.zeroPair : (Tryd.prog.info? 84).bind (·.zero) = some (.agg #[.int .u64 0, .int .u64 0]) := by kernel_rfl

/-- A product lies in a new block. -/
structure PairAt (W : World) (p : Nat) (hi lo : Nat) (wx : World) : Prop where
  blk : Blk wx p 84 [.int .u64 hi, .int .u64 lo]
  bel : Below W.heap.size W wx
  new : W.heap.size ≤ p

theorem half_cmp {x y : Nat} (h : x / 18446744073709551616 < y / 18446744073709551616) : x < y := by omega

theorem two_keep {w w' : World} {p q : Addr} {v1 v2 : Value} (h1 : Hid (w.cell? p = some v1)) (h2 : Hid (w.cell? q = some v2)) (hb : Below w.heap.size w w') :
    w'.cell? p = some v1 ∧ w'.cell? q = some v2 ∧ Below w.heap.size w w' :=
  ⟨(hb.cell (World.block_lt_of_cell? w _ h1.out)).trans h1.out, (hb.cell (World.block_lt_of_cell? w _ h2.out)).trans h2.out, hb⟩

theorem bel_then {w wy w' : World} (h1 : Below w.heap.size w wy) (h2 : Below wy.heap.size wy w') : Below w.heap.size w w' := h1.trans (h2.mono h1.size)

theorem product_at (x y hi lo : Nat) (hx : x < 18446744073709551616) (hy : y < 18446744073709551616) (h1 : Hid (x * y / 18446744073709551616 = hi)) (h2 : Hid (x * y % 18446744073709551616 = lo)) (w : World) :
    Calls Tryd.prog 36 #[.int .u64 x, .int .u64 y] w (RetB (.agg #[.int .u64 hi, .int .u64 lo]) w) := by
  have := product_nat x y hx hy w
  rw [h1.out, h2.out] at this
  exact this

theorem bel_set {W w' : World} {p i : Nat} {v : Value} (h : Below W.heap.size W w') (hp : W.heap.size ≤ p) : Below W.heap.size W (w'.setCell ⟨p, i, none⟩ v) :=
  h.trans (Mod.below (F := fun k => k = p) (Mod.setCell (Mod.refl (fun k => k = p) w') ⟨p, i, none⟩ (fun _ => rfl) v) h.size (fun x hx => by have hx' : x = p := hx; omega))

theorem pairA {W w' : World} {hi lo : Nat} (h : Below W.heap.size W w') : PairAt W w'.heap.size hi lo (w'.alloc (.cells #[.int .u64 hi, .int .u64 lo] 84)) :=
  ⟨Blk.new _ _ _, h.alloc h.size _, h.size⟩

theorem pairB {W w' : World} {hi lo : Nat} (h : Below W.heap.size W w') (hz : Blk w' W.heap.size 84 [.int .u64 0, .int .u64 0]) : PairAt W W.heap.size hi lo ((w'.setCell ⟨W.heap.size, 0, none⟩ (.int .u64 hi)).setCell ⟨W.heap.size, 1, none⟩ (.int .u64 lo)) :=
  ⟨(hz.set 0 _).set 1 _, bel_set (bel_set h (Nat.le_refl _)) (Nat.le_refl _), Nat.le_refl _⟩

theorem pair_zero {w w' : World} (h : Below (w.alloc (.cells #[.int .u64 0, .int .u64 0] 84)).drew.heap.size (w.alloc (.cells #[.int .u64 0, .int .u64 0] 84)).drew w') : Blk w' w.heap.size 84 [.int .u64 0, .int .u64 0] :=
  (Blk.new w 84 [.int .u64 0, .int .u64 0]).drew.below h (by simp)

set_option maxHeartbeats 4000000 in
set_option maxRecDepth 100000 in
theorem compare_nat (a b c d : Nat) (ha : a < 9223372036854775808) (hb : b < 9223372036854775808) (hc : c < 9223372036854775808) (hd : d < 9223372036854775808) (hb0 : 0 < b) (hd0 : 0 < d) (w : World) :
    Calls Tryd.prog 32 #[.agg #[.int .i64 a, .int .i64 b], .agg #[.int .i64 c, .int .i64 d]] w (RetB (.tuple #[.int .i64 (cmp3 (a * d) (c * b)), .int .i64 0]) w) := by
  have t1 : decide ((b : Int) < 1) = false := by simp; omega
  have t2 : decide ((d : Int) < 1) = false := by simp; omega
  have WD : Hid (IntKind.u64.wrap (d : Int) = (d : Int)) := by show _ = _; rw [IntKind.wrap_u64]; omega
  have WB : Hid (IntKind.u64.wrap (b : Int) = (b : Int)) := by show _ = _; rw [IntKind.wrap_u64]; omega
  obtain ⟨hi1, HHI1⟩ : ∃ hi, Hid (a * d / 18446744073709551616 = hi) := ⟨_, rfl⟩
  obtain ⟨lo1, HLO1⟩ : ∃ lo, Hid (a * d % 18446744073709551616 = lo) := ⟨_, rfl⟩
  obtain ⟨hi2, HHI2⟩ : ∃ hi, Hid (c * b / 18446744073709551616 = hi) := ⟨_, rfl⟩
  obtain ⟨lo2, HLO2⟩ : ∃ lo, Hid (c * b % 18446744073709551616 = lo) := ⟨_, rfl⟩
  have t3 : decide ((a : Int) < 0) = false := by simp
  have t4 : decide ((c : Int) < 0) = false := by simp
  go_enter Tryd.func32, Tryd.ntmps32
  go_upto_region 8 with fail
  generalize hW : World.alloc (World.alloc w _) _ = W
  have B1 : Blk W w.heap.size 33 [.int .i64 a, .int .i64 b] := by rw [← hW]; exact (Blk.new w _ _).alloc _
  have B2 : Blk W (w.heap.size + 1) 33 [.int .i64 c, .int .i64 d] := by rw [← hW]; exact Blk.new' (w.alloc _) _ _ (by simp)
  have hb1 : Below w.heap.size w W := by rw [← hW]; exact ((Below.refl _ _).alloc (Nat.le_refl _) _).alloc (by simp) _
  have HB1 := Lib.hid B1
  have HB2 := Lib.hid B2
  have HB := Lib.hid hb1
  have c1 := B1.cell (i := 0) rfl
  have c2 := B1.cell (i := 1) rfl
  have c3 := B2.cell (i := 0) rfl
  have c4 := B2.cell (i := 1) rfl
  have C1 := Lib.hid c1
  have C2 := Lib.hid c2
  have C3 := Lib.hid c3
  have C4 := Lib.hid c4
  clear hW B1 B2 hb1
  go_cut [7] (fun s7 wx => ∃ p, s7 = .pointer (some ⟨p, 0, none⟩) ∧ PairAt W p hi1 lo1 wx)
  case first =>
    go_region_held3 (fun w' => w'.cell? ⟨w.heap.size, 0, none⟩ = some (.int .i64 a) ∧ w'.cell? ⟨w.heap.size + 1, 1, none⟩ = some (.int .i64 d) ∧ Below W.heap.size W w')
      (((try go_split_ands); refine two_keep C1 C4 ?_; first | assumption | exact (Below.refl _ _).drew | exact (Below.drew (by assumption)) | exact (Below.alloc (by assumption) (Below.size (by assumption)) _) | exact bel_set (bel_set (by assumption) (Nat.le_refl _)) (Nat.le_refl _)))
      (first
        | (go_at_call 33; with_reducible refine (size_nat a ha _).mono ?_; rintro e w' ⟨rfl, rfl⟩)
        | (go_at_call 36; rw [WD.out]; with_reducible refine (product_at a d hi1 lo1 (by omega) (by omega) HHI1 HLO1 _).mono ?_; rintro e w' ⟨rfl, hbx⟩; (try go_split_ands); have hz := pair_zero hbx; have hz0 := hz.cell (i := 0) rfl; have hz1 := hz.cell (i := 1) rfl; have hf0 := hz.free 0; have hf1 := hz.free 1; have HZ := Lib.hid hz; have hby := bel_then (by assumption) hbx; clear hbx hz)
        | (go_at_call 36; rw [WD.out]; with_reducible refine (product_at a d hi1 lo1 (by omega) (by omega) HHI1 HLO1 _).mono ?_; rintro e w' ⟨rfl, hbx⟩; (try go_split_ands); have hby := bel_then (by assumption) hbx; clear hbx))
    all_goals
      go_wp2_with fail
      go_meet
      first
        | exact ⟨_, rfl, pairA hby⟩
        | exact ⟨_, rfl, pairB hby HZ.out⟩
  case rest =>
    obtain ⟨p, rfl, hp⟩ := hcut
    have HP := Lib.hid hp
    have C2' := Lib.hid ((hp.bel.cell (World.block_lt_of_cell? W _ c2)).trans c2)
    have C3' := Lib.hid ((hp.bel.cell (World.block_lt_of_cell? W _ c3)).trans c3)
    have d2 := C2'.out
    have d3 := C3'.out
    clear hp c1 c2 c3 c4 C1 C2 C3 C4
    obtain ⟨W1, rfl⟩ : ∃ W1 : World, W1 = wc := ⟨_, rfl⟩
    go_upto_region 9 with fail
    go_cut [8] (fun s8 wx => ∃ q, s8 = .pointer (some ⟨q, 0, none⟩) ∧ PairAt W1 q hi2 lo2 wx)
    case first =>
      go_region_held3 (fun w' => w'.cell? ⟨w.heap.size + 1, 0, none⟩ = some (.int .i64 c) ∧ w'.cell? ⟨w.heap.size, 1, none⟩ = some (.int .i64 b) ∧ Below W1.heap.size W1 w')
        (((try go_split_ands); refine two_keep C3' C2' ?_; first | assumption | exact (Below.refl _ _).drew | exact (Below.drew (by assumption)) | exact (Below.alloc (by assumption) (Below.size (by assumption)) _) | exact bel_set (bel_set (by assumption) (Nat.le_refl _)) (Nat.le_refl _)))
        (first
          | (go_at_call 33; with_reducible refine (size_nat c hc _).mono ?_; rintro e w' ⟨rfl, rfl⟩)
          | (go_at_call 36; rw [WB.out]; with_reducible refine (product_at c b hi2 lo2 (by omega) (by omega) HHI2 HLO2 _).mono ?_; rintro e w' ⟨rfl, hbx⟩; (try go_split_ands); have hz := pair_zero hbx; have hz0 := hz.cell (i := 0) rfl; have hz1 := hz.cell (i := 1) rfl; have hf0 := hz.free 0; have hf1 := hz.free 1; have HZ := Lib.hid hz; have hby := bel_then (by assumption) hbx; clear hbx hz)
          | (go_at_call 36; rw [WB.out]; with_reducible refine (product_at c b hi2 lo2 (by omega) (by omega) HHI2 HLO2 _).mono ?_; rintro e w' ⟨rfl, hbx⟩; (try go_split_ands); have hby := bel_then (by assumption) hbx; clear hbx))
      all_goals
        go_wp2_with fail
        go_meet
        first
          | exact ⟨_, rfl, pairA hby⟩
          | exact ⟨_, rfl, pairB hby HZ.out⟩
    case rest =>
      obtain ⟨q, rfl, hq⟩ := hcut
      have HBP := Lib.hid (HP.out.blk.below hq.bel HP.out.blk.lt)
      have HBQ := Lib.hid hq.blk
      have HB0 : Hid (Below w.heap.size w wc) := bel_then (bel_then HB.out HP.out.bel) hq.bel
      have FIN : Hid (∀ z : Int, (z = -1 ∧ (hi1 < hi2 ∨ (hi1 = hi2 ∧ lo1 < lo2))) ∨ (z = 1 ∧ (hi2 < hi1 ∨ (hi2 = hi1 ∧ lo2 < lo1))) ∨ (z = 0 ∧ hi1 = hi2 ∧ lo1 = lo2) → cmp3 (a * d) (c * b) = z) := by
        intro z hz
        have e1 := HHI1.out
        have e2 := HLO1.out
        have e3 := HHI2.out
        have e4 := HLO2.out
        unfold cmp3
        generalize a * d = x at *
        generalize c * b = y at *
        repeat' split
        all_goals omega
      clear hq HP C2' C3' d2 d3 HB HB1 HB2 HHI1 HLO1 HHI2 HLO2 WD WB
      obtain ⟨X, rfl⟩ : ∃ X : World, X = wc := ⟨_, rfl⟩
      go_wp2_with fail
      go_loopw [44] (fun s wr => ∃ k : Nat, k ≤ 2 ∧ s = .int .i64 k ∧ Hid (1 ≤ k → hi1 = hi2) ∧ Hid (2 ≤ k → lo1 = lo2) ∧ Mod (fun _ => False) X wr) (fun s _ => 2 - (intOf s).toNat)
      case atStart => exact ⟨0, by omega, rfl, fun h => by omega, fun h => by omega, Mod.refl _ _⟩
      case round =>
        obtain ⟨k, hk, rfl, HE0, HE1, hm⟩ := hrel
        have HM := Lib.hid hm
        obtain rfl | rfl | rfl : k = 0 ∨ k = 1 ∨ k = 2 := by omega
        · have p0 := (hm.cell (p := ⟨p, 0, none⟩) HBP.out.lt (fun h => h)).trans (HBP.out.cell (i := 0) rfl)
          have q0 := (hm.cell (p := ⟨q, 0, none⟩) HBQ.out.lt (fun h => h)).trans (HBQ.out.cell (i := 0) rfl)
          clear hm
          rcases Nat.lt_trichotomy hi1 hi2 with hlt | heq | hgt
          · have t5 : decide (hi1 < hi2) = true := by simp; omega
            have HLT := Lib.hid hlt
            clear hlt
            go_wp2_with fail
            go_quiet (fail)
            go_wp2_with fail
            go_ret2
            exact ⟨congrArg (fun z => Ending.returned (.tuple #[.int .i64 z, .int .i64 0])) (FIN.out (-1) (.inl ⟨rfl, .inl HLT.out⟩)).symm, HB0.out.trans ((HM.out.drewN _).below HB0.out.size (fun _ h => h.elim))⟩
          · have t5 : decide (hi1 < hi2) = false := by simp; omega
            have t6 : decide (hi2 < hi1) = false := by simp; omega
            have HEQ := Lib.hid heq
            clear heq
            go_wp2_with fail
            go_quiet (fail)
            go_wp2_with fail
            go_quiet (fail)
            go_wp2_with fail
            go_roundw
            case rel => exact ⟨1, by omega, rfl, fun _ => HEQ.out, fun h => by omega, HM.out.drewN _⟩
            case measure => simp [intOf]
          · have t5 : decide (hi1 < hi2) = false := by simp; omega
            have t6 : decide (hi2 < hi1) = true := by simp; omega
            have HGT := Lib.hid hgt
            clear hgt
            go_wp2_with fail
            go_quiet (fail)
            go_wp2_with fail
            go_quiet (fail)
            go_wp2_with fail
            go_ret2
            exact ⟨congrArg (fun z => Ending.returned (.tuple #[.int .i64 z, .int .i64 0])) (FIN.out 1 (.inr (.inl ⟨rfl, .inl HGT.out⟩))).symm, HB0.out.trans (((HM.out.drewN _).drewN _).below HB0.out.size (fun _ h => h.elim))⟩
        · have p0 := (hm.cell (p := ⟨p, 1, none⟩) HBP.out.lt (fun h => h)).trans (HBP.out.cell (i := 1) rfl)
          have q0 := (hm.cell (p := ⟨q, 1, none⟩) HBQ.out.lt (fun h => h)).trans (HBQ.out.cell (i := 1) rfl)
          clear hm
          rcases Nat.lt_trichotomy lo1 lo2 with hlt | heq | hgt
          · have t5 : decide (lo1 < lo2) = true := by simp; omega
            have HLT := Lib.hid hlt
            clear hlt
            go_wp2_with fail
            go_quiet (fail)
            go_wp2_with fail
            go_ret2
            exact ⟨congrArg (fun z => Ending.returned (.tuple #[.int .i64 z, .int .i64 0])) (FIN.out (-1) (.inl ⟨rfl, .inr ⟨HE0.out (by omega), HLT.out⟩⟩)).symm, HB0.out.trans ((HM.out.drewN _).below HB0.out.size (fun _ h => h.elim))⟩
          · have t5 : decide (lo1 < lo2) = false := by simp; omega
            have t6 : decide (lo2 < lo1) = false := by simp; omega
            have HEQ := Lib.hid heq
            clear heq
            go_wp2_with fail
            go_quiet (fail)
            go_wp2_with fail
            go_quiet (fail)
            go_wp2_with fail
            go_roundw
            case rel => exact ⟨2, by omega, rfl, fun _ => HE0.out (by omega), fun h => HEQ.out, HM.out.drewN _⟩
            case measure => simp [intOf]
          · have t5 : decide (lo1 < lo2) = false := by simp; omega
            have t6 : decide (lo2 < lo1) = true := by simp; omega
            have HGT := Lib.hid hgt
            clear hgt
            go_wp2_with fail
            go_quiet (fail)
            go_wp2_with fail
            go_quiet (fail)
            go_wp2_with fail
            go_ret2
            exact ⟨congrArg (fun z => Ending.returned (.tuple #[.int .i64 z, .int .i64 0])) (FIN.out 1 (.inr (.inl ⟨rfl, .inr ⟨(HE0.out (by omega)).symm, HGT.out⟩⟩))).symm, HB0.out.trans (((HM.out.drewN _).drewN _).below HB0.out.size (fun _ h => h.elim))⟩
        · clear hm
          go_wp2_with fail
          go_ret2
          exact ⟨congrArg (fun z => Ending.returned (.tuple #[.int .i64 z, .int .i64 0])) (FIN.out 0 (.inr (.inr ⟨rfl, HE0.out (by omega), HE1.out (by omega)⟩))).symm, HB0.out.trans (HM.out.below HB0.out.size (fun _ h => h.elim))⟩

set_option maxHeartbeats 1000000 in
theorem less_nat (a b c d : Nat) (ha : a < 9223372036854775808) (hb : b < 9223372036854775808) (hc : c < 9223372036854775808) (hd : d < 9223372036854775808) (hb0 : 0 < b) (hd0 : 0 < d) (w : World) :
    Calls Tryd.prog 21 #[.agg #[.int .i64 a, .int .i64 b], .agg #[.int .i64 c, .int .i64 d]] w (RetB (.bool (lessB (a, b) (c, d))) w) := by
  have hcm : Hid (decide (cmp3 (a * d) (c * b) < 0) = lessB (a, b) (c, d)) := by
    show _ = _
    unfold cmp3 lessB
    have : (a : Int) * (d : Int) < (c : Int) * (b : Int) ↔ a * d < c * b := by rw [← Int.natCast_mul, ← Int.natCast_mul]; omega
    simp only [this]
    repeat' split
    all_goals simp_all
    all_goals omega
  go_enter Tryd.func21, Tryd.ntmps21
  go_wp2_with fail
  with_reducible refine (compare_nat a b c d ha hb hc hd hb0 hd0 _).mono ?_
  rintro e w' ⟨rfl, hbx⟩
  have HB := Lib.hid hbx
  clear hbx
  generalize cmp3 (a * d) (c * b) = z at hcm
  go_wp2_with fail
  go_ret
  refine ⟨ret_bool hcm.out, ?_⟩
  exact ((((Below.refl _ _).alloc (Nat.le_refl _) _).alloc (by simp) _).trans (HB.out.mono (by simp; omega)))

end Go.Proofs.YthhddjknjnjbhaaDoor
