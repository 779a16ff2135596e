/- Several texts in one: LkA, LkB, LkC, LkD. -/
import Derived.Test.YthacjealoomioaaRows
import Derived.Test.YthacjealoomioaaZMgR
import Derived.Shelf.Bits.Mul64
import Derived.Test.YthacjealoomioaaZMgA
import Derived.Deep.RegionHeld3
import Derived.Deep.DeepCutAuto
/- checked: Mul64, size, signed, divisor, product, Reduce. -/
namespace Go.Proofs.Ythacjealoomioaa.Lk
set_option linter.unusedVariables false
set_option linter.unusedSimpArgs false
open Go.RowKit

set_option maxHeartbeats 1000000 in
theorem mul64 (x y : Nat) (hx : x < 18446744073709551616) (hy : y < 18446744073709551616) (w : World) :
    Calls Try.prog 59 #[.int .u64 x, .int .u64 y] w (Ret (.tuple #[.int .u64 ((x * y / 18446744073709551616 : Nat) : Int), .int .u64 ((x * y % 18446744073709551616 : Nat) : Int)]) w) := by
  obtain ⟨bd, bt, bw, hhi⟩ := Lib.mul64_hi x y hx hy
  have ba := Lib.half_mul_le (a := x / 4294967296) (b := y / 4294967296) (by omega) (by omega)
  have bb := Lib.half_mul_le (a := x / 4294967296) (b := y % 4294967296) (by omega) (by omega)
  have bc := Lib.half_mul_le (a := x % 4294967296) (b := y / 4294967296) (by omega) (by omega)
  have ba' : x / 4294967296 * (y / 4294967296) < 18446744073709551616 := by omega
  have bb' : x / 4294967296 * (y % 4294967296) < 18446744073709551616 := by omega
  have bc' : x % 4294967296 * (y / 4294967296) < 18446744073709551616 := by omega
  have bh1 : x / 4294967296 * (y / 4294967296) + (x / 4294967296 * (y % 4294967296) + x % 4294967296 * (y % 4294967296) / 4294967296) / 4294967296 < 18446744073709551616 := by omega
  have bh : x / 4294967296 * (y / 4294967296) + (x / 4294967296 * (y % 4294967296) + x % 4294967296 * (y % 4294967296) / 4294967296) / 4294967296 + ((x / 4294967296 * (y % 4294967296) + x % 4294967296 * (y % 4294967296) / 4294967296) % 4294967296 + x % 4294967296 * (y / 4294967296)) / 4294967296 < 18446744073709551616 := by omega
  go_enter Try.func59, Try.ntmps59
  go_wp2
  simp only [Mul64.maskN x hx, Mul64.maskN y hy, Mul64.divN, Mul64.mulN, Mul64.addN, Mul64.wrapN _ bd, Mul64.wrapN _ bb', Mul64.wrapN _ bt, Mul64.maskN _ bt, Mul64.wrapN _ bc', Mul64.wrapN _ bw, Mul64.wrapN _ ba', Mul64.wrapN _ bh1, Mul64.wrapN _ bh, Mul64.wrapM (x * y)]
  rw [hhi]
  go_ret2
  exact ⟨rfl, rfl⟩

set_option maxHeartbeats 1000000 in
theorem size_nat (x : Nat) (hx : x < 9223372036854775808) (w : World) : Calls Try.prog 46 #[.int .i64 x] w (Ret (.int .u64 x) w) := by
  go_enter Try.func46, Try.ntmps46
  go_wp2
  go_ret
  exact ⟨rfl, rfl⟩

set_option maxHeartbeats 1000000 in
theorem signed_nat (x : Nat) (hx : x < 9223372036854775808) (w : World) : Calls Try.prog 48 #[.int .u64 x, .bool false] w (Ret (.tuple #[.int .i64 x, .int .i64 0]) w) := by
  go_enter Try.func48, Try.ntmps48
  go_wp2
  go_ret2
  exact ⟨rfl, rfl⟩

set_option maxHeartbeats 2000000 in
theorem divisor_nat (x y : Nat) (hx : x < 18446744073709551616) (hy : y < 18446744073709551616) (w : World) : Calls Try.prog 47 #[.int .u64 x, .int .u64 y] w (Ret (.int .u64 (Nat.gcd x y : Nat)) w) := by
  go_enter Try.func47, Try.ntmps47
  go_wp2_with fail
  go_loop [0, 1] (fun p q => ∃ a b : Nat, p = .int .u64 a ∧ q = .int .u64 b ∧ a < 18446744073709551616 ∧ b < 18446744073709551616 ∧ Hid (Nat.gcd a b = Nat.gcd x y)) (fun p _ => (intOf p).toNat)
  case atStart => exact ⟨x, y, rfl, rfl, hx, hy, rfl⟩
  case round =>
    obtain ⟨a, b, rfl, rfl, ha, hb, HG⟩ := hrel
    by_cases h0 : a = 0
    · subst h0
      go_wp2_with fail
      go_ret
      exact ⟨ret_int (by have := HG.out; rw [Nat.gcd_zero_left] at this; rw [this]), rfl⟩
    · have t0 : ((a : Int) != 0) = true := by simp; omega
      have t1 : ((a : Int) == 0) = false := by simp; omega
      have hm : (b % a : Nat) < a := Nat.mod_lt _ (by omega)
      have e1 : (b : Int).tmod (a : Int) = ((b % a : Nat) : Int) := by rw [Int.tmod_eq_emod_of_nonneg (by omega)]; rfl
      go_wp2_with fail
      go_round
      case rel => exact ⟨b % a, a, by simp [e1], rfl, by omega, ha, by show Nat.gcd (b % a) a = Nat.gcd x y; rw [← Nat.gcd_rec]; exact HG.out⟩
      case measure => simp [intOf]; omega

set_option maxHeartbeats 1000000 in
theorem product_nat (x y : Nat) (hx : x < 18446744073709551616) (hy : y < 18446744073709551616) (w : World) :
    Calls Try.prog 45 #[.int .u64 x, .int .u64 y] w (RetB (.agg #[.int .u64 ((x * y / 18446744073709551616 : Nat) : Int), .int .u64 ((x * y % 18446744073709551616 : Nat) : Int)]) w) := by
  go_enter Try.func45, Try.ntmps45
  go_wp2_with fail
  with_reducible refine (mul64 x y hx hy _).mono ?_
  rintro e w' ⟨rfl, rfl⟩
  generalize hhi : x * y / 18446744073709551616 = hi
  generalize hlo : x * y % 18446744073709551616 = lo
  have HHI := Lib.hid hhi
  have HLO := Lib.hid hlo
  clear hhi hlo
  go_wp2_with fail
  refine bodyPost_ret (v := .agg #[.int .u64 hi, .int .u64 lo]) ?_ rfl ⟨by rw [HHI.out, HLO.out], ?_⟩
  · simp [results, Try.results45, go_sem]
  · refine Mod.below (F := fun _ => False) ?_ (Nat.le_refl _) (fun _ h => h.elim)
    exact (Mod.refl _ _).alloc _

set_option maxHeartbeats 2000000 in
theorem reduce_nat (x y : Nat) (hx : x < 9223372036854775808) (hy : y < 9223372036854775808) (h0 : 0 < y) (w : World) :
    Calls Try.prog 37 #[.int .i64 x, .int .i64 y] w (RetB (.tuple #[.agg #[.int .i64 ((x / Nat.gcd x y : Nat) : Int), .int .i64 ((y / Nat.gcd x y : Nat) : Int)], .int .i64 0]) w) := by
  have t0 : ((y : Int) == 0) = false := by simp; omega
  go_enter Try.func37, Try.ntmps37
  go_wp2_with fail
  with_reducible refine (size_nat x hx _).mono ?_
  rintro e w' ⟨rfl, rfl⟩
  go_wp2_with fail
  with_reducible refine (size_nat y hy _).mono ?_
  rintro e w' ⟨rfl, rfl⟩
  go_wp2_with fail
  with_reducible refine (divisor_nat x y (by omega) (by omega) _).mono ?_
  rintro e w' ⟨rfl, rfl⟩
  have hg : 0 < Nat.gcd x y := Nat.gcd_pos_of_pos_right _ h0
  have h1 : x / Nat.gcd x y ≤ x := Nat.div_le_self _ _
  have h2 : y / Nat.gcd x y ≤ y := Nat.div_le_self _ _
  have hgl : Nat.gcd x y ≤ y := Nat.gcd_le_right _ h0
  generalize Nat.gcd x y = g at *
  have t1 : ((g : Int) == 0) = false := by simp; omega
  have e1 : (x : Int).tdiv (g : Int) = ((x / g : Nat) : Int) := by rw [Int.tdiv_eq_ediv_of_nonneg (by omega)]; rfl
  have e2 : (y : Int).tdiv (g : Int) = ((y / g : Nat) : Int) := by rw [Int.tdiv_eq_ediv_of_nonneg (by omega)]; rfl
  generalize x / g = a at *
  generalize y / g = b at *
  have tx : decide ((x : Int) < 0) = false := by simp
  have ty : decide ((y : Int) < 0) = false := by simp
  go_wp2_with fail
  with_reducible refine (signed_nat a (by omega) _).mono ?_
  rintro e w' ⟨rfl, rfl⟩
  go_wp2_with fail
  with_reducible refine (signed_nat b (by omega) _).mono ?_
  rintro e w' ⟨rfl, rfl⟩
  go_wp2_with fail
  refine bodyPost_ret (v := .tuple #[.agg #[.int .i64 a, .int .i64 b], .int .i64 0]) ?_ rfl ⟨rfl, ?_⟩
  · simp [results, Try.results37, go_sem]
  · exact (Below.refl _ _).alloc (Nat.le_refl _) _

end Go.Proofs.Ythacjealoomioaa.Lk

/- checked.Compare, linkage.less. -/
namespace Go.Proofs.Ythacjealoomioaa.Lk
set_option linter.unusedVariables false
set_option linter.unusedSimpArgs false
open Go.RowKit

def cmp3 (x y : Nat) : Int := if x < y then -1 else if y < x then 1 else 0

theorem Try.zeroPair : (Try.prog.info? 95).bind (·.zero) = some (.agg #[.int .u64 0, .int .u64 0]) := by kernel_rfl

/-- A product lies in a new block. -/
structure PairAt (W : World) (p : Nat) (hi lo : Nat) (wx : World) : Prop where
  blk : Blk wx p 95 [.int .u64 hi, .int .u64 lo]
  bel : Below W.heap.size W wx
  new : W.heap.size ≤ p

theorem half_cmp {x y : Nat} (h : x / 18446744073709551616 < y / 18446744073709551616) : x < y := by omega

theorem two_keep {w w' : World} {p q : Addr} {v1 v2 : Value} (h1 : Hid (w.cell? p = some v1)) (h2 : Hid (w.cell? q = some v2)) (hb : Below w.heap.size w w') :
    w'.cell? p = some v1 ∧ w'.cell? q = some v2 ∧ Below w.heap.size w w' :=
  ⟨(hb.cell (World.block_lt_of_cell? w _ h1.out)).trans h1.out, (hb.cell (World.block_lt_of_cell? w _ h2.out)).trans h2.out, hb⟩

theorem bel_then {w wy w' : World} (h1 : Below w.heap.size w wy) (h2 : Below wy.heap.size wy w') : Below w.heap.size w w' := h1.trans (h2.mono h1.size)

theorem product_at (x y hi lo : Nat) (hx : x < 18446744073709551616) (hy : y < 18446744073709551616) (h1 : Hid (x * y / 18446744073709551616 = hi)) (h2 : Hid (x * y % 18446744073709551616 = lo)) (w : World) :
    Calls Try.prog 45 #[.int .u64 x, .int .u64 y] w (RetB (.agg #[.int .u64 hi, .int .u64 lo]) w) := by
  have := product_nat x y hx hy w
  rw [h1.out, h2.out] at this
  exact this

theorem bel_set {W w' : World} {p i : Nat} {v : Value} (h : Below W.heap.size W w') (hp : W.heap.size ≤ p) : Below W.heap.size W (w'.setCell ⟨p, i, none⟩ v) :=
  h.trans (Mod.below (F := fun k => k = p) (Mod.setCell (Mod.refl (fun k => k = p) w') ⟨p, i, none⟩ (fun _ => rfl) v) h.size (fun x hx => by have hx' : x = p := hx; omega))

theorem pairA {W w' : World} {hi lo : Nat} (h : Below W.heap.size W w') : PairAt W w'.heap.size hi lo (w'.alloc (.cells #[.int .u64 hi, .int .u64 lo] 95)) :=
  ⟨Blk.new _ _ _, h.alloc h.size _, h.size⟩

theorem pairB {W w' : World} {hi lo : Nat} (h : Below W.heap.size W w') (hz : Blk w' W.heap.size 95 [.int .u64 0, .int .u64 0]) : PairAt W W.heap.size hi lo ((w'.setCell ⟨W.heap.size, 0, none⟩ (.int .u64 hi)).setCell ⟨W.heap.size, 1, none⟩ (.int .u64 lo)) :=
  ⟨(hz.set 0 _).set 1 _, bel_set (bel_set h (Nat.le_refl _)) (Nat.le_refl _), Nat.le_refl _⟩

theorem pair_zero {w w' : World} (h : Below (w.alloc (.cells #[.int .u64 0, .int .u64 0] 95)).drew.heap.size (w.alloc (.cells #[.int .u64 0, .int .u64 0] 95)).drew w') : Blk w' w.heap.size 95 [.int .u64 0, .int .u64 0] :=
  (Blk.new w 95 [.int .u64 0, .int .u64 0]).drew.below h (by simp)

set_option maxHeartbeats 4000000 in
set_option maxRecDepth 100000 in
theorem compare_nat (a b c d : Nat) (ha : a < 9223372036854775808) (hb : b < 9223372036854775808) (hc : c < 9223372036854775808) (hd : d < 9223372036854775808) (hb0 : 0 < b) (hd0 : 0 < d) (w : World) :
    Calls Try.prog 36 #[.agg #[.int .i64 a, .int .i64 b], .agg #[.int .i64 c, .int .i64 d]] w (RetB (.tuple #[.int .i64 (cmp3 (a * d) (c * b)), .int .i64 0]) w) := by
  have t1 : decide ((b : Int) < 1) = false := by simp; omega
  have t2 : decide ((d : Int) < 1) = false := by simp; omega
  have WD : Hid (IntKind.u64.wrap (d : Int) = (d : Int)) := by show _ = _; rw [IntKind.wrap_u64]; omega
  have WB : Hid (IntKind.u64.wrap (b : Int) = (b : Int)) := by show _ = _; rw [IntKind.wrap_u64]; omega
  obtain ⟨hi1, HHI1⟩ : ∃ hi, Hid (a * d / 18446744073709551616 = hi) := ⟨_, rfl⟩
  obtain ⟨lo1, HLO1⟩ : ∃ lo, Hid (a * d % 18446744073709551616 = lo) := ⟨_, rfl⟩
  obtain ⟨hi2, HHI2⟩ : ∃ hi, Hid (c * b / 18446744073709551616 = hi) := ⟨_, rfl⟩
  obtain ⟨lo2, HLO2⟩ : ∃ lo, Hid (c * b % 18446744073709551616 = lo) := ⟨_, rfl⟩
  have t3 : decide ((a : Int) < 0) = false := by simp
  have t4 : decide ((c : Int) < 0) = false := by simp
  go_enter Try.func36, Try.ntmps36
  go_upto_region 8 with fail
  generalize hW : World.alloc (World.alloc w _) _ = W
  have B1 : Blk W w.heap.size 37 [.int .i64 a, .int .i64 b] := by rw [← hW]; exact (Blk.new w _ _).alloc _
  have B2 : Blk W (w.heap.size + 1) 37 [.int .i64 c, .int .i64 d] := by rw [← hW]; exact Blk.new' (w.alloc _) _ _ (by simp)
  have hb1 : Below w.heap.size w W := by rw [← hW]; exact ((Below.refl _ _).alloc (Nat.le_refl _) _).alloc (by simp) _
  have HB1 := Lib.hid B1
  have HB2 := Lib.hid B2
  have HB := Lib.hid hb1
  have c1 := B1.cell (i := 0) rfl
  have c2 := B1.cell (i := 1) rfl
  have c3 := B2.cell (i := 0) rfl
  have c4 := B2.cell (i := 1) rfl
  have C1 := Lib.hid c1
  have C2 := Lib.hid c2
  have C3 := Lib.hid c3
  have C4 := Lib.hid c4
  clear hW B1 B2 hb1
  go_cut [7] (fun s7 wx => ∃ p, s7 = .pointer (some ⟨p, 0, none⟩) ∧ PairAt W p hi1 lo1 wx)
  case first =>
    go_region_held3 (fun w' => w'.cell? ⟨w.heap.size, 0, none⟩ = some (.int .i64 a) ∧ w'.cell? ⟨w.heap.size + 1, 1, none⟩ = some (.int .i64 d) ∧ Below W.heap.size W w')
      (((try go_split_ands); refine two_keep C1 C4 ?_; first | assumption | exact (Below.refl _ _).drew | exact (Below.drew (by assumption)) | exact (Below.alloc (by assumption) (Below.size (by assumption)) _) | exact bel_set (bel_set (by assumption) (Nat.le_refl _)) (Nat.le_refl _)))
      (first
        | (go_at_call 46; with_reducible refine (size_nat a ha _).mono ?_; rintro e w' ⟨rfl, rfl⟩)
        | (go_at_call 45; rw [WD.out]; with_reducible refine (product_at a d hi1 lo1 (by omega) (by omega) HHI1 HLO1 _).mono ?_; rintro e w' ⟨rfl, hbx⟩; (try go_split_ands); have hz := pair_zero hbx; have hz0 := hz.cell (i := 0) rfl; have hz1 := hz.cell (i := 1) rfl; have hf0 := hz.free 0; have hf1 := hz.free 1; have HZ := Lib.hid hz; have hby := bel_then (by assumption) hbx; clear hbx hz)
        | (go_at_call 45; rw [WD.out]; with_reducible refine (product_at a d hi1 lo1 (by omega) (by omega) HHI1 HLO1 _).mono ?_; rintro e w' ⟨rfl, hbx⟩; (try go_split_ands); have hby := bel_then (by assumption) hbx; clear hbx))
    all_goals
      go_wp2_with fail
      go_meet
      first
        | exact ⟨_, rfl, pairA hby⟩
        | exact ⟨_, rfl, pairB hby HZ.out⟩
  case rest =>
    obtain ⟨p, rfl, hp⟩ := hcut
    have HP := Lib.hid hp
    have C2' := Lib.hid ((hp.bel.cell (World.block_lt_of_cell? W _ c2)).trans c2)
    have C3' := Lib.hid ((hp.bel.cell (World.block_lt_of_cell? W _ c3)).trans c3)
    have d2 := C2'.out
    have d3 := C3'.out
    clear hp c1 c2 c3 c4 C1 C2 C3 C4
    obtain ⟨W1, rfl⟩ : ∃ W1 : World, W1 = wc := ⟨_, rfl⟩
    go_upto_region 9 with fail
    go_cut [8] (fun s8 wx => ∃ q, s8 = .pointer (some ⟨q, 0, none⟩) ∧ PairAt W1 q hi2 lo2 wx)
    case first =>
      go_region_held3 (fun w' => w'.cell? ⟨w.heap.size + 1, 0, none⟩ = some (.int .i64 c) ∧ w'.cell? ⟨w.heap.size, 1, none⟩ = some (.int .i64 b) ∧ Below W1.heap.size W1 w')
        (((try go_split_ands); refine two_keep C3' C2' ?_; first | assumption | exact (Below.refl _ _).drew | exact (Below.drew (by assumption)) | exact (Below.alloc (by assumption) (Below.size (by assumption)) _) | exact bel_set (bel_set (by assumption) (Nat.le_refl _)) (Nat.le_refl _)))
        (first
          | (go_at_call 46; with_reducible refine (size_nat c hc _).mono ?_; rintro e w' ⟨rfl, rfl⟩)
          | (go_at_call 45; rw [WB.out]; with_reducible refine (product_at c b hi2 lo2 (by omega) (by omega) HHI2 HLO2 _).mono ?_; rintro e w' ⟨rfl, hbx⟩; (try go_split_ands); have hz := pair_zero hbx; have hz0 := hz.cell (i := 0) rfl; have hz1 := hz.cell (i := 1) rfl; have hf0 := hz.free 0; have hf1 := hz.free 1; have HZ := Lib.hid hz; have hby := bel_then (by assumption) hbx; clear hbx hz)
          | (go_at_call 45; rw [WB.out]; with_reducible refine (product_at c b hi2 lo2 (by omega) (by omega) HHI2 HLO2 _).mono ?_; rintro e w' ⟨rfl, hbx⟩; (try go_split_ands); have hby := bel_then (by assumption) hbx; clear hbx))
      all_goals
        go_wp2_with fail
        go_meet
        first
          | exact ⟨_, rfl, pairA hby⟩
          | exact ⟨_, rfl, pairB hby HZ.out⟩
    case rest =>
      obtain ⟨q, rfl, hq⟩ := hcut
      have HBP := Lib.hid (HP.out.blk.below hq.bel HP.out.blk.lt)
      have HBQ := Lib.hid hq.blk
      have HB0 : Hid (Below w.heap.size w wc) := bel_then (bel_then HB.out HP.out.bel) hq.bel
      have FIN : Hid (∀ z : Int, (z = -1 ∧ (hi1 < hi2 ∨ (hi1 = hi2 ∧ lo1 < lo2))) ∨ (z = 1 ∧ (hi2 < hi1 ∨ (hi2 = hi1 ∧ lo2 < lo1))) ∨ (z = 0 ∧ hi1 = hi2 ∧ lo1 = lo2) → cmp3 (a * d) (c * b) = z) := by
        intro z hz
        have e1 := HHI1.out
        have e2 := HLO1.out
        have e3 := HHI2.out
        have e4 := HLO2.out
        unfold cmp3
        generalize a * d = x at *
        generalize c * b = y at *
        repeat' split
        all_goals omega
      clear hq HP C2' C3' d2 d3 HB HB1 HB2 HHI1 HLO1 HHI2 HLO2 WD WB
      obtain ⟨X, rfl⟩ : ∃ X : World, X = wc := ⟨_, rfl⟩
      go_wp2_with fail
      go_loopw [44] (fun s wr => ∃ k : Nat, k ≤ 2 ∧ s = .int .i64 k ∧ Hid (1 ≤ k → hi1 = hi2) ∧ Hid (2 ≤ k → lo1 = lo2) ∧ Mod (fun _ => False) X wr) (fun s _ => 2 - (intOf s).toNat)
      case atStart => exact ⟨0, by omega, rfl, fun h => by omega, fun h => by omega, Mod.refl _ _⟩
      case round =>
        obtain ⟨k, hk, rfl, HE0, HE1, hm⟩ := hrel
        have HM := Lib.hid hm
        obtain rfl | rfl | rfl : k = 0 ∨ k = 1 ∨ k = 2 := by omega
        · have p0 := (hm.cell (p := ⟨p, 0, none⟩) HBP.out.lt (fun h => h)).trans (HBP.out.cell (i := 0) rfl)
          have q0 := (hm.cell (p := ⟨q, 0, none⟩) HBQ.out.lt (fun h => h)).trans (HBQ.out.cell (i := 0) rfl)
          clear hm
          rcases Nat.lt_trichotomy hi1 hi2 with hlt | heq | hgt
          · have t5 : decide (hi1 < hi2) = true := by simp; omega
            have HLT := Lib.hid hlt
            clear hlt
            go_wp2_with fail
            go_quiet (fail)
            go_wp2_with fail
            go_ret2
            exact ⟨congrArg (fun z => Ending.returned (.tuple #[.int .i64 z, .int .i64 0])) (FIN.out (-1) (.inl ⟨rfl, .inl HLT.out⟩)).symm, HB0.out.trans ((HM.out.drewN _).below HB0.out.size (fun _ h => h.elim))⟩
          · have t5 : decide (hi1 < hi2) = false := by simp; omega
            have t6 : decide (hi2 < hi1) = false := by simp; omega
            have HEQ := Lib.hid heq
            clear heq
            go_wp2_with fail
            go_quiet (fail)
            go_wp2_with fail
            go_quiet (fail)
            go_wp2_with fail
            go_roundw
            case rel => exact ⟨1, by omega, rfl, fun _ => HEQ.out, fun h => by omega, HM.out.drewN _⟩
            case measure => simp [intOf]
          · have t5 : decide (hi1 < hi2) = false := by simp; omega
            have t6 : decide (hi2 < hi1) = true := by simp; omega
            have HGT := Lib.hid hgt
            clear hgt
            go_wp2_with fail
            go_quiet (fail)
            go_wp2_with fail
            go_quiet (fail)
            go_wp2_with fail
            go_ret2
            exact ⟨congrArg (fun z => Ending.returned (.tuple #[.int .i64 z, .int .i64 0])) (FIN.out 1 (.inr (.inl ⟨rfl, .inl HGT.out⟩))).symm, HB0.out.trans (((HM.out.drewN _).drewN _).below HB0.out.size (fun _ h => h.elim))⟩
        · have p0 := (hm.cell (p := ⟨p, 1, none⟩) HBP.out.lt (fun h => h)).trans (HBP.out.cell (i := 1) rfl)
          have q0 := (hm.cell (p := ⟨q, 1, none⟩) HBQ.out.lt (fun h => h)).trans (HBQ.out.cell (i := 1) rfl)
          clear hm
          rcases Nat.lt_trichotomy lo1 lo2 with hlt | heq | hgt
          · have t5 : decide (lo1 < lo2) = true := by simp; omega
            have HLT := Lib.hid hlt
            clear hlt
            go_wp2_with fail
            go_quiet (fail)
            go_wp2_with fail
            go_ret2
            exact ⟨congrArg (fun z => Ending.returned (.tuple #[.int .i64 z, .int .i64 0])) (FIN.out (-1) (.inl ⟨rfl, .inr ⟨HE0.out (by omega), HLT.out⟩⟩)).symm, HB0.out.trans ((HM.out.drewN _).below HB0.out.size (fun _ h => h.elim))⟩
          · have t5 : decide (lo1 < lo2) = false := by simp; omega
            have t6 : decide (lo2 < lo1) = false := by simp; omega
            have HEQ := Lib.hid heq
            clear heq
            go_wp2_with fail
            go_quiet (fail)
            go_wp2_with fail
            go_quiet (fail)
            go_wp2_with fail
            go_roundw
            case rel => exact ⟨2, by omega, rfl, fun _ => HE0.out (by omega), fun h => HEQ.out, HM.out.drewN _⟩
            case measure => simp [intOf]
          · have t5 : decide (lo1 < lo2) = false := by simp; omega
            have t6 : decide (lo2 < lo1) = true := by simp; omega
            have HGT := Lib.hid hgt
            clear hgt
            go_wp2_with fail
            go_quiet (fail)
            go_wp2_with fail
            go_quiet (fail)
            go_wp2_with fail
            go_ret2
            exact ⟨congrArg (fun z => Ending.returned (.tuple #[.int .i64 z, .int .i64 0])) (FIN.out 1 (.inr (.inl ⟨rfl, .inr ⟨(HE0.out (by omega)).symm, HGT.out⟩⟩))).symm, HB0.out.trans (((HM.out.drewN _).drewN _).below HB0.out.size (fun _ h => h.elim))⟩
        · clear hm
          go_wp2_with fail
          go_ret2
          exact ⟨congrArg (fun z => Ending.returned (.tuple #[.int .i64 z, .int .i64 0])) (FIN.out 0 (.inr (.inr ⟨rfl, HE0.out (by omega), HE1.out (by omega)⟩))).symm, HB0.out.trans (HM.out.below HB0.out.size (fun _ h => h.elim))⟩

set_option maxHeartbeats 1000000 in
theorem less_nat (a b c d : Nat) (ha : a < 9223372036854775808) (hb : b < 9223372036854775808) (hc : c < 9223372036854775808) (hd : d < 9223372036854775808) (hb0 : 0 < b) (hd0 : 0 < d) (w : World) :
    Calls Try.prog 16 #[.agg #[.int .i64 a, .int .i64 b], .agg #[.int .i64 c, .int .i64 d]] w (RetB (.bool (lessB (a, b) (c, d))) w) := by
  have hcm : Hid (decide (cmp3 (a * d) (c * b) < 0) = lessB (a, b) (c, d)) := by
    show _ = _
    unfold cmp3 lessB
    have : (a : Int) * (d : Int) < (c : Int) * (b : Int) ↔ a * d < c * b := by rw [← Int.natCast_mul, ← Int.natCast_mul]; omega
    simp only [this]
    repeat' split
    all_goals simp_all
    all_goals omega
  go_enter Try.func16, Try.ntmps16
  go_wp2_with fail
  with_reducible refine (compare_nat a b c d ha hb hc hd hb0 hd0 _).mono ?_
  rintro e w' ⟨rfl, hbx⟩
  have HB := Lib.hid hbx
  clear hbx
  generalize cmp3 (a * d) (c * b) = z at hcm
  go_wp2_with fail
  go_ret
  refine ⟨ret_bool hcm.out, ?_⟩
  exact ((((Below.refl _ _).alloc (Nat.le_refl _) _).alloc (by simp) _).trans (HB.out.mono (by simp; omega)))

end Go.Proofs.Ythacjealoomioaa.Lk

/- linkage: mixer, Check. -/
namespace Go.Proofs.Ythacjealoomioaa.Lk
set_option linter.unusedVariables false
set_option linter.unusedSimpArgs false
open Go.RowKit

/-- The function value of a method. -/
def mixF (m : Int) : Value := if m = 1 then .func (.func 32) #[] #[] else if m = 2 then .func (.func 33) #[] #[] else if m = 3 then .func (.func 34) #[] #[] else .nilFunc

set_option maxHeartbeats 1000000 in
theorem mixer_ok (m : Int) (w : World) : Calls Try.prog 12 #[.int .i64 m] w (Ret (mixF m) w) := by
  by_cases h1 : m = 1
  · subst h1
    go_enter Try.func12, Try.ntmps12
    go_wp2
    go_ret
    exact ⟨rfl, rfl⟩
  · by_cases h2 : m = 2
    · subst h2
      go_enter Try.func12, Try.ntmps12
      go_wp2
      go_ret
      exact ⟨rfl, rfl⟩
    · by_cases h3 : m = 3
      · subst h3
        go_enter Try.func12, Try.ntmps12
        go_wp2
        go_ret
        exact ⟨rfl, rfl⟩
      · have t1 : (m == 1) = false := by simp [h1]
        have t2 : (m == 2) = false := by simp [h2]
        have t3 : (m == 3) = false := by simp [h3]
        have H : Hid (mixF m = .nilFunc) := by show _ = _; unfold mixF; rw [if_neg h1, if_neg h2, if_neg h3]
        clear h1 h2 h3
        go_enter Try.func12, Try.ntmps12
        go_wp2
        go_ret
        exact ⟨by rw [H.out]; rfl, rfl⟩

set_option maxHeartbeats 1000000 in
theorem mix1 (x y : Int) (w : World) : Calls Try.prog 32 #[.int .i64 x, .int .i64 y] w (Ret (.int .i64 (mixV 1 x y)) w) := by
  go_enter Try.func32, Try.ntmps32
  go_wp2
  all_goals
    go_ret
    exact ⟨ret_int (by simp [mixV]; try omega), rfl⟩

set_option maxHeartbeats 1000000 in
theorem mix2 (x y : Int) (w : World) : Calls Try.prog 33 #[.int .i64 x, .int .i64 y] w (Ret (.int .i64 (mixV 2 x y)) w) := by
  go_enter Try.func33, Try.ntmps33
  go_wp2
  all_goals
    go_ret
    exact ⟨ret_int (by simp [mixV]; try omega), rfl⟩

set_option maxHeartbeats 1000000 in
theorem mix3 (x y : Int) (w : World) : Calls Try.prog 34 #[.int .i64 x, .int .i64 y] w (Ret (.int .i64 (mixV 3 x y)) w) := by
  go_enter Try.func34, Try.ntmps34
  go_wp2_with fail
  go_ret
  exact ⟨ret_int (by simp [mixV]; rw [IntKind.wrap_i64]; unfold wrap64; rfl), rfl⟩

theorem checkL_arg {n : Int} {d : List Int} (h : n < 0 ∨ 128 < n ∨ (d.length : Int) ≠ n * n) : checkL n d = 2 := by unfold checkL; rw [if_pos h]

theorem symTo_le {n : Nat} {d : List Int} {i : Nat} : ∀ {k : Nat}, i ≤ k → symTo n d i = false → symTo n d k = false
  | 0, h, hs => by obtain rfl : i = 0 := by omega
                   exact hs
  | k + 1, h, hs => by
    by_cases e : i = k + 1
    · subst e; exact hs
    · have := symTo_le (k := k) (by omega) hs
      simp [symTo, this]

theorem symTo_step {n : Nat} {d : List Int} {k : Nat} (h : symTo n d k = true) (h0 : at2 n d k k = 0) (hj : ∀ j, j < k → at2 n d k j = at2 n d j k) : symTo n d (k + 1) = true := by
  simp only [symTo, h, h0, decide_true, Bool.true_and, List.all_eq_true, List.mem_range, decide_eq_true_eq]
  exact hj

theorem symTo_diag {n : Nat} {d : List Int} {k : Nat} (h : at2 n d k k ≠ 0) : symTo n d (k + 1) = false := by
  simp [symTo, h]

theorem symTo_pair {n : Nat} {d : List Int} {k j : Nat} (hj : j < k) (h : at2 n d k j ≠ at2 n d j k) : symTo n d (k + 1) = false := by
  unfold symTo
  rw [Bool.and_eq_false_iff]
  right
  rw [List.all_eq_false]
  exact ⟨j, List.mem_range.2 hj, by simpa using h⟩

theorem checkL_sym {n : Nat} {d : List Int} {k : Nat} (hl : d.length = n * n) (hn : n ≤ 128) (hk : k ≤ n) (h : symTo n d k = false) : checkL (n : Int) d = 2 := by
  unfold checkL
  rw [if_neg (by rw [hl, Int.natCast_mul]; omega), Int.toNat_natCast, if_pos (symTo_le hk h)]

theorem checkL_lim {n : Nat} {d : List Int} {i : Nat} (hl : d.length = n * n) (hn : n ≤ 128) (h : symTo n d n = true) (hi : i < d.length) (hx : d.getD i 0 < 0 ∨ 1099511627776 < d.getD i 0) : checkL (n : Int) d = 3 := by
  unfold checkL
  have : inLim d = false := by
    unfold inLim
    rw [List.all_eq_false]
    refine ⟨d.getD i 0, ?_, by generalize d.getD i 0 = x at hx ⊢; simp; omega⟩
    rw [List.getD_eq_getElem?_getD, List.getElem?_eq_getElem hi]; exact List.getElem_mem _
  rw [if_neg (by rw [hl, Int.natCast_mul]; omega), Int.toNat_natCast, h, if_neg (by simp), if_pos this]

theorem checkL_ok {n : Nat} {d : List Int} (hl : d.length = n * n) (hn : n ≤ 128) (h : symTo n d n = true) (hx : ∀ i, i < d.length → 0 ≤ d.getD i 0 ∧ d.getD i 0 ≤ 1099511627776) : checkL (n : Int) d = 0 := by
  unfold checkL
  have : inLim d = true := by
    unfold inLim
    rw [List.all_eq_true]
    intro x hm
    obtain ⟨i, hi, rfl⟩ := List.getElem_of_mem hm
    have := hx i hi
    simpa [List.getD_eq_getElem?_getD, List.getElem?_eq_getElem hi] using this
  rw [if_neg (by rw [hl, Int.natCast_mul]; omega), Int.toNat_natCast, h, if_neg (by simp), this, if_neg (by simp)]

set_option maxHeartbeats 4000000 in
set_option maxRecDepth 100000 in
theorem check_bad (n : Int) (ao : Option Addr) (len cap : Nat) (hlen : len ≤ 9223372036854775807) (w : World) (h : n < 0 ∨ 128 < n ∨ (len : Int) ≠ n * n) :
    Calls Try.prog 13 #[.int .i64 n, .slice ao len cap] w (RetB (.int .i64 2) w) := by
  by_cases h1 : n < 0
  · have t1 : decide (n < 0) = true := by simp [h1]
    go_enter Try.func13, Try.ntmps13
    go_wp2_with fail
    go_ret
    exact ⟨rfl, Below.refl _ _⟩
  · have t1 : decide (n < 0) = false := by simp; omega
    by_cases h2 : 128 < n
    · have t2 : decide (128 < n) = true := by simp [h2]
      go_enter Try.func13, Try.ntmps13
      go_wp2_with fail
      go_ret
      exact ⟨rfl, Below.refl _ _⟩
    · have t2 : decide (128 < n) = false := by simp; omega
      have hne : (len : Int) ≠ n * n := by omega
      have hb : n * n ≤ 128 * 128 := Int.mul_le_mul (by omega) (by omega) (by omega) (by omega)
      have hb0 : 0 ≤ n * n := Int.mul_nonneg (by omega) (by omega)
      generalize hnn : n * n = nn at hne hb hb0
      have t3 : ((len : Int) != nn) = true := by simp [hne]
      go_enter Try.func13, Try.ntmps13
      go_wp2_with fail
      go_ret
      exact ⟨rfl, Below.refl _ _⟩

set_option maxHeartbeats 8000000 in
set_option maxRecDepth 100000 in
theorem check_good (n : Nat) (hn : n ≤ 128) (ao : Option Addr) (len cap b off : Nat) (d : List Int) (w : World) (hz : InRow .i64 w ao len b off d) (hl : len = n * n) :
    Calls Try.prog 13 #[.int .i64 n, .slice ao len cap] w (RetB (.int .i64 (checkL n d)) w) := by
  have HZ := Lib.hid hz
  have HDL := Lib.hid (hz.size.trans hl)
  have hlb : len ≤ 16384 := by rw [hl]; exact Nat.mul_le_mul hn hn
  have enn : (n : Int) * (n : Int) = (len : Int) := by rw [hl, Int.natCast_mul]
  have HL := Lib.hid hl
  clear hz hl
  have t1 : decide ((n : Int) < 0) = false := by simp
  have t2 : decide (128 < (n : Int)) = false := by simp; omega
  go_enter Try.func13, Try.ntmps13
  go_wp2_with fail
  clear enn t1 t2
  go_loopw [24] (fun s wr => ∃ k : Nat, k ≤ n ∧ s = .int .i64 k ∧ symTo n d k = true ∧ Mod (fun _ => False) w wr) (fun s _ => n - (intOf s).toNat)
  case atStart => exact ⟨0, Nat.zero_le _, rfl, rfl, Mod.refl _ _⟩
  case round =>
    obtain ⟨k, hk, rfl, hs, hm⟩ := hrel
    have HS := Lib.hid hs
    have HM := Lib.hid hm
    clear hs
    by_cases hkn : k < n
    · have hxl : k * n + k < len := by rw [HL.out]; exact idx_lt hkn hkn
      obtain rfl := HZ.out.adr (by omega)
      have c1 := (HZ.out.mod hm (fun _ h => h)).cell (k * n + k) hxl
      have HA : Hid (at2 n d k k = d.getD (k * n + k) 0) := rfl
      have e1 : (k : Int) * (n : Int) = ((k * n : Nat) : Int) := by rw [Int.natCast_mul]
      obtain ⟨kn, HKN⟩ : ∃ kn, Hid (k * n = kn) := ⟨_, rfl⟩
      rw [HKN.out] at hxl c1 HA e1
      generalize d.getD (kn + k) 0 = x at c1 HA
      clear hm
      by_cases hx : x = 0
      · have t3 : (x != 0) = false := by simp [hx]
        have HX := Lib.hid hx
        clear hx
        go_wp2_with fail
        clear c1 t3
        obtain ⟨wq, rfl⟩ : ∃ wq : World, wq = wr := ⟨_, rfl⟩
        go_loopw [37] (fun s wr => ∃ j : Nat, j ≤ k ∧ s = .int .i64 j ∧ (∀ i, i < j → at2 n d k i = at2 n d i k) ∧ Mod (fun _ => False) w wr) (fun s _ => k - (intOf s).toNat)
        case atStart => exact ⟨0, Nat.zero_le _, rfl, fun i hi => by omega, HM.out⟩
        case round =>
          obtain ⟨j, hj, rfl, hall, hm⟩ := hrel
          have HALL := Lib.hid hall
          have HM2 := Lib.hid hm
          clear hall
          by_cases hjk : j < k
          · have hx1 : k * n + j < len := by rw [HL.out]; exact idx_lt hkn (by omega)
            have hx2 : j * n + k < len := by rw [HL.out]; exact idx_lt (by omega) hkn
            have c1 := (HZ.out.mod hm (fun _ h => h)).cell _ hx1
            have c2 := (HZ.out.mod hm (fun _ h => h)).cell _ hx2
            have HA1 : Hid (at2 n d k j = d.getD (k * n + j) 0) := rfl
            have HA2 : Hid (at2 n d j k = d.getD (j * n + k) 0) := rfl
            have e2 : (j : Int) * (n : Int) = ((j * n : Nat) : Int) := by rw [Int.natCast_mul]
            have hkn' : k * n = kn := HKN.out
            rw [hkn'] at hx1 c1 HA1
            generalize j * n = jn at hx2 c2 HA2 e2
            generalize d.getD (kn + j) 0 = x1 at c1 HA1
            generalize d.getD (jn + k) 0 = x2 at c2 HA2
            clear hm hkn'
            by_cases hxx : x1 = x2
            · have t3 : (x1 != x2) = false := by simp [hxx]
              have HXX := Lib.hid hxx
              clear hxx
              go_wp2_with fail
              go_quiet (fail)
              go_wp2_with fail
              go_roundw
              case rel => exact ⟨j + 1, by omega, by go_num, fun i hi => by
                by_cases e : i < j
                · exact HALL.out i e
                · obtain rfl : i = j := by omega
                  rw [HA1.out, HA2.out]; exact HXX.out, HM2.out.drewN _⟩
              case measure => simp [intOf]; omega
            · have t3 : (x1 != x2) = true := by simp [hxx]
              have HXX := Lib.hid hxx
              clear hxx
              go_wp2_with fail
              go_quiet (fail)
              go_wp2_with fail
              go_ret
              refine ⟨ret_int ?_, (HM2.out.drewN _).below (Nat.le_refl _) (fun _ h => h.elim)⟩
              exact (checkL_sym HDL.out hn (by omega : k + 1 ≤ n) (symTo_pair hjk (by rw [HA1.out, HA2.out]; exact HXX.out))).symm
          · obtain rfl : j = k := by omega
            clear hm
            go_wp2_with fail
            go_roundw
            case rel => exact ⟨j + 1, by omega, by go_num, symTo_step HS.out (HA.out.trans HX.out) HALL.out, HM2.out⟩
            case measure => simp [intOf]; omega
      · have t3 : (x != 0) = true := by simp [hx]
        have HX := Lib.hid hx
        clear hx
        go_wp2_with fail
        go_ret
        refine ⟨ret_int ?_, HM.out.below (Nat.le_refl _) (fun _ h => h.elim)⟩
        exact (checkL_sym HDL.out hn (by omega : k + 1 ≤ n) (symTo_diag (by rw [HA.out]; exact HX.out))).symm
    · obtain rfl : k = n := by omega
      clear hm
      go_wp2_with fail
      obtain ⟨wq, rfl⟩ : ∃ wq : World, wq = wr := ⟨_, rfl⟩
      go_loopw [61] (fun s wr => ∃ i : Nat, i ≤ len ∧ s = .int .i64 i ∧ (∀ j, j < i → 0 ≤ d.getD j 0 ∧ d.getD j 0 ≤ 1099511627776) ∧ Mod (fun _ => False) w wr) (fun s _ => len - (intOf s).toNat)
      case atStart => exact ⟨0, Nat.zero_le _, rfl, fun i hi => by omega, HM.out⟩
      case round =>
        obtain ⟨i, hi, rfl, hall, hm⟩ := hrel
        have HALL := Lib.hid hall
        have HM2 := Lib.hid hm
        clear hall
        by_cases hil : i < len
        · obtain rfl := HZ.out.adr (by omega)
          have c1 := (HZ.out.mod hm (fun _ h => h)).cell i hil
          have HX : Hid (d.getD i 0 = d.getD i 0) := rfl
          obtain ⟨x, HXE⟩ : ∃ x, Hid (d.getD i 0 = x) := ⟨_, rfl⟩
          rw [HXE.out] at c1
          clear hm HX
          by_cases h1 : x < 0
          · have t3 : decide (x < 0) = true := by simp [h1]
            have H1 := Lib.hid h1
            clear h1
            go_wp2_with fail
            go_ret
            refine ⟨ret_int ?_, HM2.out.below (Nat.le_refl _) (fun _ h => h.elim)⟩
            exact (checkL_lim HDL.out hn HS.out (by rw [HZ.out.size]; exact hil) (.inl (by rw [HXE.out]; exact H1.out))).symm
          · have t3 : decide (x < 0) = false := by simp; omega
            by_cases h2 : 1099511627776 < x
            · have t4 : decide (1099511627776 < x) = true := by simp [h2]
              have H2 := Lib.hid h2
              clear h1 h2
              go_wp2_with fail
              go_ret
              refine ⟨ret_int ?_, HM2.out.below (Nat.le_refl _) (fun _ h => h.elim)⟩
              exact (checkL_lim HDL.out hn HS.out (by rw [HZ.out.size]; exact hil) (.inr (by rw [HXE.out]; exact H2.out))).symm
            · have t4 : decide (1099511627776 < x) = false := by simp; omega
              have H2 : Hid (0 ≤ x ∧ x ≤ 1099511627776) := ⟨by omega, by omega⟩
              clear h1 h2
              go_wp2_with fail
              go_roundw
              case rel => exact ⟨i + 1, by omega, by go_num, fun j hj => by
                by_cases e : j < i
                · exact HALL.out j e
                · obtain rfl : j = i := by omega
                  rw [HXE.out]; exact H2.out, HM2.out⟩
              case measure => simp [intOf]; omega
        · obtain rfl : i = len := by omega
          clear hm
          go_wp2_with fail
          go_ret
          refine ⟨ret_int ?_, HM2.out.below (Nat.le_refl _) (fun _ h => h.elim)⟩
          exact (checkL_ok HDL.out hn HS.out (fun j hj => HALL.out j (by rw [HZ.out.size] at hj; exact hj))).symm

end Go.Proofs.Ythacjealoomioaa.Lk

/- linkage: the clusters; distance. -/
namespace Go.Proofs.Ythacjealoomioaa.Lk
set_option linter.unusedVariables false
set_option linter.unusedSimpArgs false
open Go.RowKit

def clRow (n : Nat) (m : Int) (sz : List Int) (v : Value) : List Value := .int .i64 n :: .int .i64 m :: mixF m :: (sz.map (fun x => Value.int .i64 x) ++ [v])

/-- The clusters lie at c. -/
structure CObj (w : World) (c n : Nat) (m : Int) (sz : List Int) (v : Value) (bt : List Int) : Prop where
  blk : Blk w c 58 (clRow n m sz v)
  row : w.ownsRow 0 2 1 v bt.length (bt.map fun x => .int .i64 x)
  ne : v.ownBlock ≠ some c
  szl : sz.length = 128

theorem clRow_sz {n : Nat} {m : Int} {sz : List Int} {v : Value} {i : Nat} (hl : sz.length = 128) (h : i < 128) : (clRow n m sz v)[3 + i]? = some (.int .i64 (sz.getD i 0)) := by
  unfold clRow
  rw [show 3 + i = i + 1 + 1 + 1 by omega, List.getElem?_cons_succ, List.getElem?_cons_succ, List.getElem?_cons_succ, List.getElem?_append_left (by simp; omega)]
  simp [hl, h]

theorem clRow_v {n : Nat} {m : Int} {sz : List Int} {v : Value} (hl : sz.length = 128) : (clRow n m sz v)[131]? = some v := by
  unfold clRow
  rw [show 131 = 128 + 1 + 1 + 1 by omega, List.getElem?_cons_succ, List.getElem?_cons_succ, List.getElem?_cons_succ, List.getElem?_append_right (by simp; omega)]
  simp [hl]

theorem clRow_set {n : Nat} {m : Int} {sz : List Int} {v : Value} {i : Nat} (hl : sz.length = 128) (h : i < 128) (x : Int) : (clRow n m sz v).set (3 + i) (.int .i64 x) = clRow n m (sz.set i x) v := by
  unfold clRow
  rw [show 3 + i = i + 1 + 1 + 1 by omega, List.set_cons_succ, List.set_cons_succ, List.set_cons_succ, List.set_append_left _ _ (by simp; omega), List.map_set]

theorem CObj.c0 {w : World} {c n : Nat} {m : Int} {sz : List Int} {v : Value} {bt : List Int} (h : CObj w c n m sz v bt) : w.cell? ⟨c, 0, none⟩ = some (.int .i64 n) := h.blk.cell (i := 0) rfl
theorem CObj.c1 {w : World} {c n : Nat} {m : Int} {sz : List Int} {v : Value} {bt : List Int} (h : CObj w c n m sz v bt) : w.cell? ⟨c, 1, none⟩ = some (.int .i64 m) := h.blk.cell (i := 1) rfl
theorem CObj.c2 {w : World} {c n : Nat} {m : Int} {sz : List Int} {v : Value} {bt : List Int} (h : CObj w c n m sz v bt) : w.cell? ⟨c, 2, none⟩ = some (mixF m) := h.blk.cell (i := 2) rfl
theorem CObj.cs {w : World} {c n : Nat} {m : Int} {sz : List Int} {v : Value} {bt : List Int} (h : CObj w c n m sz v bt) {i : Nat} (hi : i < 128) : w.cell? ⟨c, 3 + i, none⟩ = some (.int .i64 (sz.getD i 0)) := h.blk.cell (clRow_sz h.szl hi)
theorem CObj.cv {w : World} {c n : Nat} {m : Int} {sz : List Int} {v : Value} {bt : List Int} (h : CObj w c n m sz v bt) : w.cell? ⟨c, 131, none⟩ = some v := h.blk.cell (clRow_v h.szl)

theorem CObj.mod {F : Nat → Prop} {w w' : World} {c n : Nat} {m : Int} {sz : List Int} {v : Value} {bt : List Int} (h : CObj w c n m sz v bt) (hm : Mod F w w') (hc : ¬ F c) (hv : ∀ k, v.ownBlock = some k → ¬ F k) : CObj w' c n m sz v bt :=
  ⟨h.blk.mod hm hc, owns_mod h.row hm hv, h.ne, h.szl⟩

theorem CObj.below {w w' : World} {c n : Nat} {m : Int} {sz : List Int} {v : Value} {bt : List Int} (h : CObj w c n m sz v bt) (hb : Below w.heap.size w w') : CObj w' c n m sz v bt :=
  h.mod (Mod.of_below (F := fun _ => False) hb) (fun h => h) (fun _ _ h => h)

theorem four_keep {w w' : World} {p q r : Addr} {v1 v2 v3 : Value} (h1 : Hid (w.cell? p = some v1)) (h2 : Hid (w.cell? q = some v2)) (h3 : Hid (w.cell? r = some v3)) (hb : Below w.heap.size w w') :
    w'.cell? p = some v1 ∧ w'.cell? q = some v2 ∧ w'.cell? r = some v3 ∧ Below w.heap.size w w' :=
  ⟨(hb.cell (World.block_lt_of_cell? w _ h1.out)).trans h1.out, (hb.cell (World.block_lt_of_cell? w _ h2.out)).trans h2.out, (hb.cell (World.block_lt_of_cell? w _ h3.out)).trans h3.out, hb⟩

def dD (m : Int) (sz : List Int) (a b : Nat) : Int := if m = 3 then sz.getD a 0 * sz.getD b 0 else 1

set_option maxHeartbeats 4000000 in
set_option maxRecDepth 100000 in
theorem distance_ok (w : World) (c n : Nat) (m : Int) (sz : List Int) (v : Value) (bt : List Int) (h : CObj w c n m sz v bt) (hn : n ≤ 128) (hl : bt.length = n * n) (a b : Nat) (ha : a < n) (hb : b < n)
    (hsz : ∀ i, 0 ≤ sz.getD i 0 ∧ sz.getD i 0 ≤ 128) :
    Calls Try.prog 15 #[.pointer (some ⟨c, 0, none⟩), .int .i64 a, .int .i64 b] w (RetB (.agg #[.int .i64 (at2 n bt a b), .int .i64 (dD m sz a b)]) w) := by
  have hx : a * n + b < bt.length := by rw [hl]; exact idx_lt ha hb
  have hlb : bt.length ≤ 16384 := by rw [hl]; exact Nat.mul_le_mul hn hn
  have k0 := h.c0
  have k1 := h.c1
  have k2 := h.cs (i := a) (by omega)
  have k3 := h.cs (i := b) (by omega)
  have k4 := h.cv
  have row := h.row
  obtain ⟨g, cap, rfl, hc1, hc2, hg, hcell, _⟩ := owns_form row (by omega)
  have k5 := hcell (a * n + b) (by omega)
  have e5 : (bt.map fun x => Value.int .i64 x)[a * n + b]? = some (.int .i64 (at2 n bt a b)) := by simp [at2, hx]
  rw [e5] at k5
  have e1 : (a : Int) * (n : Int) = ((a * n : Nat) : Int) := by rw [Int.natCast_mul]
  obtain ⟨ln, HLN⟩ : ∃ ln, Hid (bt.length = ln) := ⟨_, rfl⟩
  rw [HLN.out] at k4 hx hlb hc1
  generalize at2 n bt a b = x at k5
  generalize a * n = an at *
  have K0 := Lib.hid k0
  have K1 := Lib.hid k1
  have K2 := Lib.hid k2
  have K3 := Lib.hid k3
  have K4 := Lib.hid k4
  have K5 := Lib.hid k5
  have HS1 := hsz a
  have HS2 := hsz b
  have HD : Hid (dD m sz a b = if m = 3 then sz.getD a 0 * sz.getD b 0 else 1) := rfl
  clear hcell e5 hsz row hl h
  generalize sz.getD a 0 = sa at *
  generalize sz.getD b 0 = sb at *
  generalize dD m sz a b = dd at *
  clear k1 k2 k3
  go_enter Try.func15, Try.ntmps15
  go_upto_region 1 with fail
  generalize hW : World.alloc w _ = W
  have B6 : Blk W w.heap.size 37 [.int .i64 0, .int .i64 0] := by rw [← hW]; exact Blk.new w _ _
  have hb1 : Below w.heap.size w W := by rw [← hW]; exact (Below.refl _ _).alloc (Nat.le_refl _) _
  have HSW : Hid (W.heap.size = w.heap.size + 1) := by show _ = _; rw [← hW]; simp
  have HB6 := Lib.hid B6
  have HB := Lib.hid hb1
  have L0 := Lib.hid ((hb1.cell (World.block_lt_of_cell? w _ K0.out)).trans K0.out)
  have L1 := Lib.hid ((hb1.cell (World.block_lt_of_cell? w _ K1.out)).trans K1.out)
  have L2 := Lib.hid ((hb1.cell (World.block_lt_of_cell? w _ K2.out)).trans K2.out)
  have L3 := Lib.hid ((hb1.cell (World.block_lt_of_cell? w _ K3.out)).trans K3.out)
  have L4 := Lib.hid ((hb1.cell (World.block_lt_of_cell? w _ K4.out)).trans K4.out)
  have L5 := Lib.hid ((hb1.cell (World.block_lt_of_cell? w _ K5.out)).trans K5.out)
  clear hW B6 hb1 k0 k4 k5 K0 K1 K2 K3 K4 K5
  have l0 := L0.out
  have l4 := L4.out
  have l5 := L5.out
  obtain ⟨ix, hix⟩ : ∃ ix, an + b = ix := ⟨_, rfl⟩
  have i1 : (ix : Int) < (ln : Int) := by omega
  have w0 : (an : Int) + (b : Int) = (ix : Int) := by omega
  have w1 : IntKind.i64.wrap (an : Int) = (an : Int) := IntWalk.i64_in _ (by omega)
  have w2 : IntKind.i64.wrap (ix : Int) = (ix : Int) := IntWalk.i64_in _ (by omega)
  rw [hix] at l5 L5 hx
  clear hix
  go_cut [7] (fun s7 wx => ∃ p, s7 = .pointer (some ⟨p, 0, none⟩) ∧ Blk wx p 37 [.int .i64 x, .int .i64 1] ∧ Below W.heap.size W wx ∧ W.heap.size ≤ p)
  case first =>
    go_region_held3 (fun w' => w'.cell? ⟨c, 131, none⟩ = some (.slice (some ⟨g, 0, none⟩) ln cap) ∧ w'.cell? ⟨c, 0, none⟩ = some (.int .i64 n) ∧ w'.cell? ⟨g, ix, none⟩ = some (.int .i64 x) ∧ Below W.heap.size W w')
      (((try go_split_ands); refine four_keep L4 L0 L5 ?_; first | assumption | exact ((Below.refl _ _).alloc (Nat.le_refl _) _).drew | exact (Below.refl _ _).drew | exact (Below.drew (by assumption)) | exact (Below.alloc (by assumption) (Below.size (by assumption)) _) | exact bel_set (bel_set (by assumption) (Nat.le_refl _)) (Nat.le_refl _)))
      (fail)
    all_goals
      go_wp2_with fail
      go_meet
      exact ⟨_, rfl, (Blk.new W _ _).drew, ((Below.refl _ _).alloc (Nat.le_refl _) _).drew, Nat.le_refl _⟩
  case rest =>
    obtain ⟨p, rfl, hp, hbx, hpn⟩ := hcut
    have HP := Lib.hid hp
    have HBX := Lib.hid hbx
    have p0 := hp.cell (i := 0) rfl
    have p1 := hp.cell (i := 1) rfl
    have f0 := hp.free 0
    have f1 := hp.free 1
    have hs6 : w.heap.size < W.heap.size := by have := HSW.out; omega
    have q0 := (hbx.cell (p := ⟨w.heap.size, 0, none⟩) hs6).trans (HB6.out.cell (i := 0) rfl)
    have q1 := (hbx.cell (p := ⟨w.heap.size, 1, none⟩) hs6).trans (HB6.out.cell (i := 1) rfl)
    have r0 := (hbx.frozen (p := ⟨w.heap.size, 0, none⟩) hs6).trans (HB6.out.free 0)
    have r1 := (hbx.frozen (p := ⟨w.heap.size, 1, none⟩) hs6).trans (HB6.out.free 1)
    have m1 := (hbx.cell (World.block_lt_of_cell? W _ L1.out)).trans L1.out
    have m2 := (hbx.cell (World.block_lt_of_cell? W _ L2.out)).trans L2.out
    have m3 := (hbx.cell (World.block_lt_of_cell? W _ L3.out)).trans L3.out
    have hne : p ≠ w.heap.size := by omega
    have HBW : Hid (Below w.heap.size w wc) := HB.out.trans (hbx.mono (by omega))
    clear hp hbx l0 l4 l5 L0 L4 L5
    by_cases hm : m = 3
    · subst hm
      have hdd : dd = sa * sb := by rw [HD.out, if_pos rfl]
      subst hdd
      clear HD
      go_upto_region 3 with fail
      have m2' := m2
      have m3' := m3
      have hpr : 0 ≤ sa * sb ∧ sa * sb ≤ 16384 := ⟨Int.mul_nonneg (by omega) (by omega), Int.le_trans (Int.mul_le_mul (by omega : sa ≤ 128) (by omega : sb ≤ 128) (by omega) (by omega)) (by omega)⟩
      refine region_tail 14 (by kernel_rfl) (by kernel_rfl) ?_
      intro w2 hw2
      have d2 : w2.cell? ⟨c, 3 + a, none⟩ = some (.int .i64 sa) := by rw [hw2]; exact m2
      have d3 : w2.cell? ⟨c, 3 + b, none⟩ = some (.int .i64 sb) := by rw [hw2]; exact m3
      have d4 : w2.cell? ⟨p, 0, none⟩ = some (.int .i64 x) := by rw [hw2]; exact p0
      have d5 : w2.cell? ⟨p, 1, none⟩ = some (.int .i64 1) := by rw [hw2]; exact p1
      have d6 : w2.cell? ⟨w.heap.size, 0, none⟩ = some (.int .i64 0) := by rw [hw2]; exact q0
      have d7 : w2.cell? ⟨w.heap.size, 1, none⟩ = some (.int .i64 0) := by rw [hw2]; exact q1
      have f2 : w2.frozen? ⟨p, 0, none⟩ = false := by rw [hw2]; exact f0
      have f3 : w2.frozen? ⟨p, 1, none⟩ = false := by rw [hw2]; exact f1
      have r2 : w2.frozen? ⟨w.heap.size, 0, none⟩ = false := by rw [hw2]; exact r0
      have r3 : w2.frozen? ⟨w.heap.size, 1, none⟩ = false := by rw [hw2]; exact r1
      have HB2 : Hid (Below w.heap.size w w2) := by show Below _ _ _; rw [hw2]; exact HBW.out.drew
      clear hw2 m1 m2 m3 m2' m3' p0 p1 q0 q1 f0 f1 r0 r1
      have t128a : (a : Int) < 128 := by omega
      have t128b : (b : Int) < 128 := by omega
      simp only [List.take_succ_cons, List.take_zero, List.drop_succ_cons, List.drop_zero]
      repeat still_step
      refine wpStill_nil ?_
      go_wp2_with fail
      have hlp : w.heap.size ≤ p := by omega
      refine bodyPost_ret (v := .agg #[.int .i64 x, .int .i64 (sa * sb)]) ?_ rfl ⟨rfl, ?_⟩
      · simp [results, Try.results15, go_sem, d6, d7]
      · exact bel_set (bel_set (bel_set HB2.out hlp) (Nat.le_refl _)) (Nat.le_refl _)
    · have t1 : (m == 3) = false := by simp [hm]
      have hdd : dd = 1 := by rw [HD.out, if_neg hm]
      subst hdd
      clear HD hm
      go_wp2_with fail
      refine bodyPost_ret (v := .agg #[.int .i64 x, .int .i64 1]) ?_ rfl ⟨rfl, ?_⟩
      · simp [results, Try.results15, go_sem, q0, q1]
      · exact bel_set (bel_set HBW.out (Nat.le_refl _)) (Nat.le_refl _)

end Go.Proofs.Ythacjealoomioaa.Lk
