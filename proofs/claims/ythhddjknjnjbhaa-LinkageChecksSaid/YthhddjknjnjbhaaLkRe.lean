/- The reference of layer 23: Check. -/
import Derived.Test.YthhddjknjnjbhaaLkV
namespace Go.Proofs.Ythhddjknjnjbhaa
set_option linter.unusedVariables false
set_option linter.unusedSimpArgs false
open Go.RowKit

set_option maxHeartbeats 4000000 in
set_option maxRecDepth 100000 in
theorem rcheck_bad (n : Int) (ao : Option Addr) (len cap : Nat) (hlen : len ≤ 9223372036854775807) (w : World) (h : n < 0 ∨ 128 < n ∨ (len : Int) ≠ n * n) :
    Calls Try.prog 10 #[.int .i64 n, .slice ao len cap] w (RetB (.int .i64 2) w) := by
  by_cases h1 : n < 0
  · have t1 : decide (n < 0) = true := by simp [h1]
    go_enter Try.func10, Try.ntmps10
    go_wp2_with fail
    go_ret
    exact ⟨rfl, Below.refl _ _⟩
  · have t1 : decide (n < 0) = false := by simp; omega
    by_cases h2 : 128 < n
    · have t2 : decide (128 < n) = true := by simp [h2]
      go_enter Try.func10, Try.ntmps10
      go_wp2_with fail
      go_ret
      exact ⟨rfl, Below.refl _ _⟩
    · have t2 : decide (128 < n) = false := by simp; omega
      have hne : (len : Int) ≠ n * n := by omega
      have hb : n * n ≤ 128 * 128 := Int.mul_le_mul (by omega) (by omega) (by omega) (by omega)
      have hb0 : 0 ≤ n * n := Int.mul_nonneg (by omega) (by omega)
      generalize hnn : n * n = nn at hne hb hb0
      have t3 : ((len : Int) != nn) = true := by simp [hne]
      go_enter Try.func10, Try.ntmps10
      go_wp2_with fail
      go_ret
      exact ⟨rfl, Below.refl _ _⟩

theorem check_fails {n : Nat} {d : List Int} (hl : d.length = n * n) (hn : n ≤ 128) {i j : Nat} (hi : i < n) (hj : j < n) (h : at2 n d i j ≠ at2 n d j i ∨ i = j ∧ at2 n d i j ≠ 0) : checkL n d = 2 := by
  refine checkL_sym hl hn (Nat.le_refl n) ?_
  rw [Bool.eq_false_iff]
  intro hs
  rcases h with h | ⟨rfl, h⟩
  · exact h (symTo_sym hs i j hi hj)
  · exact h (symTo_zero hs i hi)

def rowOk (n : Nat) (d : List Int) (i q : Nat) : Prop := at2 n d i q = at2 n d q i ∧ (i = q → at2 n d i q = 0)

set_option maxHeartbeats 8000000 in
set_option maxRecDepth 100000 in
theorem rcheck_good (n : Nat) (hn : n ≤ 128) (ao : Option Addr) (len cap b off : Nat) (d : List Int) (w : World) (hz : InRow .i64 w ao len b off d) (hl : len = n * n) :
    Calls Try.prog 10 #[.int .i64 n, .slice ao len cap] w (RetB (.int .i64 (checkL n d)) w) := by
  have HZ := Lib.hid hz
  have HDL := Lib.hid (hz.size.trans hl)
  have hlb : len ≤ 16384 := by rw [hl]; exact Nat.mul_le_mul hn hn
  have enn : (n : Int) * (n : Int) = (len : Int) := by rw [hl, Int.natCast_mul]
  have HL := Lib.hid hl
  clear hz hl
  have t1 : decide ((n : Int) < 0) = false := by simp
  have t2 : decide (128 < (n : Int)) = false := by simp; omega
  go_enter Try.func10, Try.ntmps10
  go_wp2_with fail
  clear t1 t2
  go_loopw [5] (fun s wr => ∃ i : Nat, i ≤ n ∧ s = .int .i64 i ∧ (∀ p q, p < i → q < n → rowOk n d p q) ∧ Mod (fun _ => False) w wr) (fun s _ => n - (intOf s).toNat)
  case atStart => exact ⟨0, Nat.zero_le _, rfl, (fun p q hp => by omega), Mod.refl _ _⟩
  case round =>
    obtain ⟨i, hi, rfl, hall, hm⟩ := hrel
    have HALL := Lib.hid hall
    have HM := Lib.hid hm
    clear hall hm
    by_cases hin : i < n
    · go_wp2_with fail
      obtain ⟨wq, rfl⟩ : ∃ wq : World, wq = wr := ⟨_, rfl⟩
      go_loopw [6] (fun s wr => ∃ j : Nat, j ≤ n ∧ s = .int .i64 j ∧ (∀ q, q < j → rowOk n d i q) ∧ Mod (fun _ => False) w wr) (fun s _ => n - (intOf s).toNat)
      case atStart => exact ⟨0, Nat.zero_le _, rfl, (fun q hq => by omega), HM.out⟩
      case round =>
        obtain ⟨j, hj, rfl, hrow, hm⟩ := hrel
        clear HM
        have HROW := Lib.hid hrow
        have HM := Lib.hid hm
        clear hrow
        by_cases hjn : j < n
        · have x1 : i * n + j < len := by rw [HL.out]; exact idx_lt hin hjn
          have x2 : j * n + i < len := by rw [HL.out]; exact idx_lt hjn hin
          obtain rfl := HZ.out.adr (by omega)
          have c1 := (HZ.out.mod hm (fun _ h => h)).cell _ x1
          have c2 := (HZ.out.mod hm (fun _ h => h)).cell _ x2
          have HA1 : Hid (at2 n d i j = d.getD (i * n + j) 0) := rfl
          have HA2 : Hid (at2 n d j i = d.getD (j * n + i) 0) := rfl
          have HF : Hid ((at2 n d i j ≠ at2 n d j i ∨ i = j ∧ at2 n d i j ≠ 0) → checkL n d = 2) := fun h => check_fails HDL.out hn hin hjn h
          have m1 : (i : Int) * (n : Int) = ((i * n : Nat) : Int) := by rw [Int.natCast_mul]
          have m2 : (j : Int) * (n : Int) = ((j * n : Nat) : Int) := by rw [Int.natCast_mul]
          generalize i * n = im at *
          generalize j * n = jm at *
          obtain ⟨p, hp⟩ : ∃ p, im + j = p := ⟨_, rfl⟩
          obtain ⟨q, hq⟩ : ∃ q, jm + i = q := ⟨_, rfl⟩
          have m3 : (im : Int) + (j : Int) = (p : Int) := by omega
          have m4 : (jm : Int) + (i : Int) = (q : Int) := by omega
          rw [hp] at x1 c1 HA1
          rw [hq] at x2 c2 HA2
          have v1 : IntKind.i64.wrap (im : Int) = (im : Int) := IntWalk.i64_in _ (by omega)
          have v2 : IntKind.i64.wrap (jm : Int) = (jm : Int) := IntWalk.i64_in _ (by omega)
          have v3 : IntKind.i64.wrap (p : Int) = (p : Int) := IntWalk.i64_in _ (by omega)
          have v4 : IntKind.i64.wrap (q : Int) = (q : Int) := IntWalk.i64_in _ (by omega)
          have y1 : (p : Int) < (len : Int) := by omega
          have y2 : (q : Int) < (len : Int) := by omega
          clear hp hq hm
          generalize d.getD p 0 = x at c1 HA1
          generalize d.getD q 0 = y at c2 HA2
          by_cases hxy : x = y
          · have t3 : (x != y) = false := by simp [hxy]
            have HXY := Lib.hid hxy
            clear hxy
            by_cases hij : i = j
            · have t4 : ((i : Int) == (j : Int)) = true := by simp [hij]
              have HIJ := Lib.hid hij
              clear hij
              by_cases hx0 : x = 0
              · have t5 : (x != 0) = false := by simp [hx0]
                have HX0 := Lib.hid hx0
                clear hx0
                go_wp2_with fail
                go_quiet (fail)
                go_wp2_with fail
                go_roundw
                case rel =>
                  refine ⟨j + 1, by omega, by go_num, fun q' hq' => ?_, HM.out.drewN _⟩
                  by_cases e : q' < j
                  · exact HROW.out q' e
                  · obtain rfl : q' = j := by omega
                    exact ⟨by rw [HA1.out, HA2.out]; exact HXY.out, fun _ => by rw [HA1.out]; exact HX0.out⟩
                case measure => simp [intOf]; omega
              · have t5 : (x != 0) = true := by simp [hx0]
                have HX0 := Lib.hid hx0
                clear hx0
                go_wp2_with fail
                go_quiet (fail)
                go_wp2_with fail
                go_ret
                exact ⟨ret_int (HF.out (.inr ⟨HIJ.out, by rw [HA1.out]; exact HX0.out⟩)).symm, (HM.out.drewN _).below (Nat.le_refl _) (fun _ h => h.elim)⟩
            · have t4 : ((i : Int) == (j : Int)) = false := by simp; omega
              have HIJ := Lib.hid hij
              clear hij
              go_wp2_with fail
              go_quiet (fail)
              go_wp2_with fail
              go_roundw
              case rel =>
                refine ⟨j + 1, by omega, by go_num, fun q' hq' => ?_, HM.out.drewN _⟩
                by_cases e : q' < j
                · exact HROW.out q' e
                · obtain rfl : q' = j := by omega
                  exact ⟨by rw [HA1.out, HA2.out]; exact HXY.out, fun e => absurd e HIJ.out⟩
              case measure => simp [intOf]; omega
          · have t3 : (x != y) = true := by simp [hxy]
            have HXY := Lib.hid hxy
            clear hxy
            go_wp2_with fail
            go_quiet (fail)
            go_wp2_with fail
            go_ret
            exact ⟨ret_int (HF.out (.inl (by rw [HA1.out, HA2.out]; exact HXY.out))).symm, (HM.out.drewN _).below (Nat.le_refl _) (fun _ h => h.elim)⟩
        · obtain rfl : n = j := by omega
          clear hm
          go_wp2_with fail
          go_roundw
          case rel =>
            refine ⟨i + 1, by omega, by go_num, fun p q hp hq => ?_, HM.out⟩
            by_cases e : p < i
            · exact HALL.out p q e hq
            · obtain rfl : p = i := by omega
              exact HROW.out q hq
          case measure => simp [intOf]; omega
    · obtain rfl : n = i := by omega
      have HSYM : Hid (symTo n d n = true) := symTo_of (fun i j hi hj => (HALL.out i j hi hj).1) (fun i hi => (HALL.out i i hi hi).2 rfl) n (Nat.le_refl _)
      clear HALL
      go_wp2_with fail
      obtain ⟨wq, rfl⟩ : ∃ wq : World, wq = wr := ⟨_, rfl⟩
      go_loopw [7] (fun s wr => ∃ k : Nat, k ≤ len ∧ s = .int .i64 k ∧ (∀ p, p < k → 0 ≤ d.getD p 0 ∧ d.getD p 0 ≤ 1099511627776) ∧ Mod (fun _ => False) w wr) (fun s _ => len - (intOf s).toNat)
      case atStart => exact ⟨0, Nat.zero_le _, rfl, (fun p hp => by omega), HM.out⟩
      case round =>
        obtain ⟨k, hk, rfl, hlim, hm⟩ := hrel
        clear HM
        have HLIM := Lib.hid hlim
        have HM := Lib.hid hm
        clear hlim
        by_cases hkl : k < len
        · obtain rfl := HZ.out.adr (by omega)
          have c1 := (HZ.out.mod hm (fun _ h => h)).cell _ hkl
          have y1 : (k : Int) < (len : Int) := by omega
          have HF : Hid ((d.getD k 0 < 0 ∨ 1099511627776 < d.getD k 0) → checkL n d = 3) := fun h => checkL_lim HDL.out hn HSYM.out (by rw [HZ.out.size]; exact hkl) h
          obtain ⟨x, HX⟩ : ∃ x, Hid (d.getD k 0 = x) := ⟨_, rfl⟩
          rw [HX.out] at c1 HF
          clear hm
          by_cases h1 : x < 0
          · have t3 : decide (x < 0) = true := by simp [h1]
            have H1 := Lib.hid h1
            clear h1
            go_wp2_with fail
            go_ret
            exact ⟨ret_int (HF.out (.inl H1.out)).symm, HM.out.below (Nat.le_refl _) (fun _ h => h.elim)⟩
          · have t3 : decide (x < 0) = false := by simp; omega
            by_cases h2 : 1099511627776 < x
            · have t4 : decide (1099511627776 < x) = true := by simp [h2]
              have H2 := Lib.hid h2
              clear h1 h2
              go_wp2_with fail
              go_ret
              exact ⟨ret_int (HF.out (.inr H2.out)).symm, HM.out.below (Nat.le_refl _) (fun _ h => h.elim)⟩
            · have t4 : decide (1099511627776 < x) = false := by simp; omega
              have H2 : Hid (0 ≤ x ∧ x ≤ 1099511627776) := ⟨by omega, by omega⟩
              clear h1 h2
              go_wp2_with fail
              go_roundw
              case rel =>
                refine ⟨k + 1, by omega, by go_num, fun p hp => ?_, HM.out⟩
                by_cases e : p < k
                · exact HLIM.out p e
                · obtain rfl : p = k := by omega
                  rw [HX.out]; exact H2.out
              case measure => simp [intOf]; omega
        · obtain rfl : len = k := by omega
          have HE : Hid (checkL n d = 0) := checkL_ok HDL.out hn HSYM.out (fun i hi => HLIM.out i (by rw [HZ.out.size] at hi; exact hi))
          clear hm
          go_wp2_with fail
          go_ret
          exact ⟨ret_int HE.out.symm, HM.out.below (Nat.le_refl _) (fun _ h => h.elim)⟩

theorem rcheck_any (w : World) (n : Int) (ao : Option Addr) (len cap b off : Nat) (d : List Int) (hz : InRow .i64 w ao len b off d) (hlen : len ≤ 9223372036854775807) :
    Calls Try.prog 10 #[.int .i64 n, .slice ao len cap] w (RetB (.int .i64 (checkL n d)) w) := by
  by_cases h : n < 0 ∨ 128 < n ∨ (len : Int) ≠ n * n
  · rw [checkL_arg (by rw [hz.size]; exact h)]
    exact rcheck_bad n ao len cap hlen w h
  · obtain ⟨k, rfl⟩ := Int.eq_ofNat_of_zero_le (show 0 ≤ n by omega)
    have e : ((k * k : Nat) : Int) = (k : Int) * k := by simp
    exact rcheck_good k (by omega) ao len cap b off d w hz (by omega)

end Go.Proofs.Ythhddjknjnjbhaa
