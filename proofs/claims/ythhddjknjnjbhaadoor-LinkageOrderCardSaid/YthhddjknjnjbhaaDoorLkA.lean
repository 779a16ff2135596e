/- checked: Mul64, size, signed, divisor, product, Reduce. -/
import Derived.Test.YthhddjknjnjbhaaDoorRows
import Derived.Test.YthhddjknjnjbhaaDoorLkP
import Derived.Shelf.Bits.Mul64
namespace Go.Proofs.YthhddjknjnjbhaaDoor
set_option linter.unusedVariables false
set_option linter.unusedSimpArgs false
open Go.RowKit

set_option maxHeartbeats 1000000 in
theorem mul64 (x y : Nat) (hx : x < 18446744073709551616) (hy : y < 18446744073709551616) (w : World) :
    Calls Tryd.prog 37 #[.int .u64 x, .int .u64 y] w (Ret (.tuple #[.int .u64 ((x * y / 18446744073709551616 : Nat) : Int), .int .u64 ((x * y % 18446744073709551616 : Nat) : Int)]) w) := by
  obtain ⟨bd, bt, bw, hhi⟩ := Lib.mul64_hi x y hx hy
  have ba := Lib.half_mul_le (a := x / 4294967296) (b := y / 4294967296) (by omega) (by omega)
  have bb := Lib.half_mul_le (a := x / 4294967296) (b := y % 4294967296) (by omega) (by omega)
  have bc := Lib.half_mul_le (a := x % 4294967296) (b := y / 4294967296) (by omega) (by omega)
  have ba' : x / 4294967296 * (y / 4294967296) < 18446744073709551616 := by omega
  have bb' : x / 4294967296 * (y % 4294967296) < 18446744073709551616 := by omega
  have bc' : x % 4294967296 * (y / 4294967296) < 18446744073709551616 := by omega
  have bh1 : x / 4294967296 * (y / 4294967296) + (x / 4294967296 * (y % 4294967296) + x % 4294967296 * (y % 4294967296) / 4294967296) / 4294967296 < 18446744073709551616 := by omega
  have bh : x / 4294967296 * (y / 4294967296) + (x / 4294967296 * (y % 4294967296) + x % 4294967296 * (y % 4294967296) / 4294967296) / 4294967296 + ((x / 4294967296 * (y % 4294967296) + x % 4294967296 * (y % 4294967296) / 4294967296) % 4294967296 + x % 4294967296 * (y / 4294967296)) / 4294967296 < 18446744073709551616 := by omega
  go_enter Tryd.func37, Tryd.ntmps37
  go_wp2
  simp only [Mul64.maskN x hx, Mul64.maskN y hy, Mul64.divN, Mul64.mulN, Mul64.addN, Mul64.wrapN _ bd, Mul64.wrapN _ bb', Mul64.wrapN _ bt, Mul64.maskN _ bt, Mul64.wrapN _ bc', Mul64.wrapN _ bw, Mul64.wrapN _ ba', Mul64.wrapN _ bh1, Mul64.wrapN _ bh, Mul64.wrapM (x * y)]
  rw [hhi]
  go_ret2
  exact ⟨rfl, rfl⟩

set_option maxHeartbeats 1000000 in
theorem size_nat (x : Nat) (hx : x < 9223372036854775808) (w : World) : Calls Tryd.prog 33 #[.int .i64 x] w (Ret (.int .u64 x) w) := by
  go_enter Tryd.func33, Tryd.ntmps33
  go_wp2
  go_ret
  exact ⟨rfl, rfl⟩

set_option maxHeartbeats 1000000 in
theorem signed_nat (x : Nat) (hx : x < 9223372036854775808) (w : World) : Calls Tryd.prog 35 #[.int .u64 x, .bool false] w (Ret (.tuple #[.int .i64 x, .int .i64 0]) w) := by
  go_enter Tryd.func35, Tryd.ntmps35
  go_wp2
  go_ret2
  exact ⟨rfl, rfl⟩

set_option maxHeartbeats 2000000 in
theorem divisor_nat (x y : Nat) (hx : x < 18446744073709551616) (hy : y < 18446744073709551616) (w : World) : Calls Tryd.prog 34 #[.int .u64 x, .int .u64 y] w (Ret (.int .u64 (Nat.gcd x y : Nat)) w) := by
  go_enter Tryd.func34, Tryd.ntmps34
  go_wp2_with fail
  go_loop [0, 1] (fun p q => ∃ a b : Nat, p = .int .u64 a ∧ q = .int .u64 b ∧ a < 18446744073709551616 ∧ b < 18446744073709551616 ∧ Hid (Nat.gcd a b = Nat.gcd x y)) (fun p _ => (intOf p).toNat)
  case atStart => exact ⟨x, y, rfl, rfl, hx, hy, rfl⟩
  case round =>
    obtain ⟨a, b, rfl, rfl, ha, hb, HG⟩ := hrel
    by_cases h0 : a = 0
    · subst h0
      go_wp2_with fail
      go_ret
      exact ⟨ret_int (by have := HG.out; rw [Nat.gcd_zero_left] at this; rw [this]), rfl⟩
    · have t0 : ((a : Int) != 0) = true := by simp; omega
      have t1 : ((a : Int) == 0) = false := by simp; omega
      have hm : (b % a : Nat) < a := Nat.mod_lt _ (by omega)
      have e1 : (b : Int).tmod (a : Int) = ((b % a : Nat) : Int) := by rw [Int.tmod_eq_emod_of_nonneg (by omega)]; rfl
      go_wp2_with fail
      go_round
      case rel => exact ⟨b % a, a, by simp [e1], rfl, by omega, ha, by show Nat.gcd (b % a) a = Nat.gcd x y; rw [← Nat.gcd_rec]; exact HG.out⟩
      case measure => simp [intOf]; omega

set_option maxHeartbeats 1000000 in
theorem product_nat (x y : Nat) (hx : x < 18446744073709551616) (hy : y < 18446744073709551616) (w : World) :
    Calls Tryd.prog 36 #[.int .u64 x, .int .u64 y] w (RetB (.agg #[.int .u64 ((x * y / 18446744073709551616 : Nat) : Int), .int .u64 ((x * y % 18446744073709551616 : Nat) : Int)]) w) := by
  go_enter Tryd.func36, Tryd.ntmps36
  go_wp2_with fail
  with_reducible refine (mul64 x y hx hy _).mono ?_
  rintro e w' ⟨rfl, rfl⟩
  generalize hhi : x * y / 18446744073709551616 = hi
  generalize hlo : x * y % 18446744073709551616 = lo
  have HHI := Lib.hid hhi
  have HLO := Lib.hid hlo
  clear hhi hlo
  go_wp2_with fail
  refine bodyPost_ret (v := .agg #[.int .u64 hi, .int .u64 lo]) ?_ rfl ⟨by rw [HHI.out, HLO.out], ?_⟩
  · simp [results, Tryd.results36, go_sem]
  · refine Mod.below (F := fun _ => False) ?_ (Nat.le_refl _) (fun _ h => h.elim)
    exact (Mod.refl _ _).alloc _

set_option maxHeartbeats 2000000 in
theorem reduce_nat (x y : Nat) (hx : x < 9223372036854775808) (hy : y < 9223372036854775808) (h0 : 0 < y) (w : World) :
    Calls Tryd.prog 27 #[.int .i64 x, .int .i64 y] w (RetB (.tuple #[.agg #[.int .i64 ((x / Nat.gcd x y : Nat) : Int), .int .i64 ((y / Nat.gcd x y : Nat) : Int)], .int .i64 0]) w) := by
  have t0 : ((y : Int) == 0) = false := by simp; omega
  go_enter Tryd.func27, Tryd.ntmps27
  go_wp2_with fail
  with_reducible refine (size_nat x hx _).mono ?_
  rintro e w' ⟨rfl, rfl⟩
  go_wp2_with fail
  with_reducible refine (size_nat y hy _).mono ?_
  rintro e w' ⟨rfl, rfl⟩
  go_wp2_with fail
  with_reducible refine (divisor_nat x y (by omega) (by omega) _).mono ?_
  rintro e w' ⟨rfl, rfl⟩
  have hg : 0 < Nat.gcd x y := Nat.gcd_pos_of_pos_right _ h0
  have h1 : x / Nat.gcd x y ≤ x := Nat.div_le_self _ _
  have h2 : y / Nat.gcd x y ≤ y := Nat.div_le_self _ _
  have hgl : Nat.gcd x y ≤ y := Nat.gcd_le_right _ h0
  generalize Nat.gcd x y = g at *
  have t1 : ((g : Int) == 0) = false := by simp; omega
  have e1 : (x : Int).tdiv (g : Int) = ((x / g : Nat) : Int) := by rw [Int.tdiv_eq_ediv_of_nonneg (by omega)]; rfl
  have e2 : (y : Int).tdiv (g : Int) = ((y / g : Nat) : Int) := by rw [Int.tdiv_eq_ediv_of_nonneg (by omega)]; rfl
  generalize x / g = a at *
  generalize y / g = b at *
  have tx : decide ((x : Int) < 0) = false := by simp
  have ty : decide ((y : Int) < 0) = false := by simp
  go_wp2_with fail
  with_reducible refine (signed_nat a (by omega) _).mono ?_
  rintro e w' ⟨rfl, rfl⟩
  go_wp2_with fail
  with_reducible refine (signed_nat b (by omega) _).mono ?_
  rintro e w' ⟨rfl, rfl⟩
  go_wp2_with fail
  refine bodyPost_ret (v := .tuple #[.agg #[.int .i64 a, .int .i64 b], .int .i64 0]) ?_ rfl ⟨rfl, ?_⟩
  · simp [results, Tryd.results27, go_sem]
  · exact (Below.refl _ _).alloc (Nat.le_refl _) _

end Go.Proofs.YthhddjknjnjbhaaDoor
