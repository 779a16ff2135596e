/- linkage: mixer, Check. -/
import Derived.Test.YthhddjknjnjbhaaDoorLkB
import Derived.Test.YthhddjknjnjbhaaDoorLkI
import Derived.Test.YthhddjknjnjbhaaDoorLkQ
namespace Go.Proofs.YthhddjknjnjbhaaDoor
set_option linter.unusedVariables false
set_option linter.unusedSimpArgs false
open Go.RowKit

/-- The function value of a method. -/
def mixF (m : Int) : Value := if m = 1 then .func (.func 28) #[] #[] else if m = 2 then .func (.func 29) #[] #[] else if m = 3 then .func (.func 30) #[] #[] else .nilFunc

set_option maxHeartbeats 1000000 in
theorem mixer_ok (m : Int) (w : World) : Calls Tryd.prog 18 #[.int .i64 m] w (Ret (mixF m) w) := by
  by_cases h1 : m = 1
  · subst h1
    go_enter Tryd.func18, Tryd.ntmps18
    go_wp2
    go_ret
    exact ⟨rfl, rfl⟩
  · by_cases h2 : m = 2
    · subst h2
      go_enter Tryd.func18, Tryd.ntmps18
      go_wp2
      go_ret
      exact ⟨rfl, rfl⟩
    · by_cases h3 : m = 3
      · subst h3
        go_enter Tryd.func18, Tryd.ntmps18
        go_wp2
        go_ret
        exact ⟨rfl, rfl⟩
      · have t1 : (m == 1) = false := by simp [h1]
        have t2 : (m == 2) = false := by simp [h2]
        have t3 : (m == 3) = false := by simp [h3]
        have H : Hid (mixF m = .nilFunc) := by show _ = _; unfold mixF; rw [if_neg h1, if_neg h2, if_neg h3]
        clear h1 h2 h3
        go_enter Tryd.func18, Tryd.ntmps18
        go_wp2
        go_ret
        exact ⟨by rw [H.out]; rfl, rfl⟩

set_option maxHeartbeats 1000000 in
theorem mix1 (x y : Int) (w : World) : Calls Tryd.prog 28 #[.int .i64 x, .int .i64 y] w (Ret (.int .i64 (mixV 1 x y)) w) := by
  go_enter Tryd.func28, Tryd.ntmps28
  go_wp2
  all_goals
    go_ret
    exact ⟨ret_int (by simp [mixV]; try omega), rfl⟩

set_option maxHeartbeats 1000000 in
theorem mix2 (x y : Int) (w : World) : Calls Tryd.prog 29 #[.int .i64 x, .int .i64 y] w (Ret (.int .i64 (mixV 2 x y)) w) := by
  go_enter Tryd.func29, Tryd.ntmps29
  go_wp2
  all_goals
    go_ret
    exact ⟨ret_int (by simp [mixV]; try omega), rfl⟩

set_option maxHeartbeats 1000000 in
theorem mix3 (x y : Int) (w : World) : Calls Tryd.prog 30 #[.int .i64 x, .int .i64 y] w (Ret (.int .i64 (mixV 3 x y)) w) := by
  go_enter Tryd.func30, Tryd.ntmps30
  go_wp2_with fail
  go_ret
  exact ⟨ret_int (by simp [mixV]; rw [IntKind.wrap_i64]; unfold wrap64; rfl), rfl⟩

theorem checkL_arg {n : Int} {d : List Int} (h : n < 0 ∨ 128 < n ∨ (d.length : Int) ≠ n * n) : checkL n d = 2 := by unfold checkL; rw [if_pos h]

theorem symTo_le {n : Nat} {d : List Int} {i : Nat} : ∀ {k : Nat}, i ≤ k → symTo n d i = false → symTo n d k = false
  | 0, h, hs => by obtain rfl : i = 0 := by omega
                   exact hs
  | k + 1, h, hs => by
    by_cases e : i = k + 1
    · subst e; exact hs
    · have := symTo_le (k := k) (by omega) hs
      simp [symTo, this]

theorem symTo_step {n : Nat} {d : List Int} {k : Nat} (h : symTo n d k = true) (h0 : at2 n d k k = 0) (hj : ∀ j, j < k → at2 n d k j = at2 n d j k) : symTo n d (k + 1) = true := by
  simp only [symTo, h, h0, decide_true, Bool.true_and, List.all_eq_true, List.mem_range, decide_eq_true_eq]
  exact hj

theorem symTo_diag {n : Nat} {d : List Int} {k : Nat} (h : at2 n d k k ≠ 0) : symTo n d (k + 1) = false := by
  simp [symTo, h]

theorem symTo_pair {n : Nat} {d : List Int} {k j : Nat} (hj : j < k) (h : at2 n d k j ≠ at2 n d j k) : symTo n d (k + 1) = false := by
  unfold symTo
  rw [Bool.and_eq_false_iff]
  right
  rw [List.all_eq_false]
  exact ⟨j, List.mem_range.2 hj, by simpa using h⟩

theorem checkL_sym {n : Nat} {d : List Int} {k : Nat} (hl : d.length = n * n) (hn : n ≤ 128) (hk : k ≤ n) (h : symTo n d k = false) : checkL (n : Int) d = 2 := by
  unfold checkL
  rw [if_neg (by rw [hl, Int.natCast_mul]; omega), Int.toNat_natCast, if_pos (symTo_le hk h)]

theorem checkL_lim {n : Nat} {d : List Int} {i : Nat} (hl : d.length = n * n) (hn : n ≤ 128) (h : symTo n d n = true) (hi : i < d.length) (hx : d.getD i 0 < 0 ∨ 1099511627776 < d.getD i 0) : checkL (n : Int) d = 3 := by
  unfold checkL
  have : inLim d = false := by
    unfold inLim
    rw [List.all_eq_false]
    refine ⟨d.getD i 0, ?_, by generalize d.getD i 0 = x at hx ⊢; simp; omega⟩
    rw [List.getD_eq_getElem?_getD, List.getElem?_eq_getElem hi]; exact List.getElem_mem _
  rw [if_neg (by rw [hl, Int.natCast_mul]; omega), Int.toNat_natCast, h, if_neg (by simp), if_pos this]

theorem checkL_ok {n : Nat} {d : List Int} (hl : d.length = n * n) (hn : n ≤ 128) (h : symTo n d n = true) (hx : ∀ i, i < d.length → 0 ≤ d.getD i 0 ∧ d.getD i 0 ≤ 1099511627776) : checkL (n : Int) d = 0 := by
  unfold checkL
  have : inLim d = true := by
    unfold inLim
    rw [List.all_eq_true]
    intro x hm
    obtain ⟨i, hi, rfl⟩ := List.getElem_of_mem hm
    have := hx i hi
    simpa [List.getD_eq_getElem?_getD, List.getElem?_eq_getElem hi] using this
  rw [if_neg (by rw [hl, Int.natCast_mul]; omega), Int.toNat_natCast, h, if_neg (by simp), this, if_neg (by simp)]

set_option maxHeartbeats 4000000 in
set_option maxRecDepth 100000 in
theorem check_bad (n : Int) (ao : Option Addr) (len cap : Nat) (hlen : len ≤ 9223372036854775807) (w : World) (h : n < 0 ∨ 128 < n ∨ (len : Int) ≠ n * n) :
    Calls Tryd.prog 17 #[.int .i64 n, .slice ao len cap] w (RetB (.int .i64 2) w) := by
  by_cases h1 : n < 0
  · have t1 : decide (n < 0) = true := by simp [h1]
    go_enter Tryd.func17, Tryd.ntmps17
    go_wp2_with fail
    go_ret
    exact ⟨rfl, Below.refl _ _⟩
  · have t1 : decide (n < 0) = false := by simp; omega
    by_cases h2 : 128 < n
    · have t2 : decide (128 < n) = true := by simp [h2]
      go_enter Tryd.func17, Tryd.ntmps17
      go_wp2_with fail
      go_ret
      exact ⟨rfl, Below.refl _ _⟩
    · have t2 : decide (128 < n) = false := by simp; omega
      have hne : (len : Int) ≠ n * n := by omega
      have hb : n * n ≤ 128 * 128 := Int.mul_le_mul (by omega) (by omega) (by omega) (by omega)
      have hb0 : 0 ≤ n * n := Int.mul_nonneg (by omega) (by omega)
      generalize hnn : n * n = nn at hne hb hb0
      have t3 : ((len : Int) != nn) = true := by simp [hne]
      go_enter Tryd.func17, Tryd.ntmps17
      go_wp2_with fail
      go_ret
      exact ⟨rfl, Below.refl _ _⟩

set_option maxHeartbeats 8000000 in
set_option maxRecDepth 100000 in
theorem check_good (n : Nat) (hn : n ≤ 128) (ao : Option Addr) (len cap b off : Nat) (d : List Int) (w : World) (hz : InRow .i64 w ao len b off d) (hl : len = n * n) :
    Calls Tryd.prog 17 #[.int .i64 n, .slice ao len cap] w (RetB (.int .i64 (checkL n d)) w) := by
  have HZ := Lib.hid hz
  have HDL := Lib.hid (hz.size.trans hl)
  have hlb : len ≤ 16384 := by rw [hl]; exact Nat.mul_le_mul hn hn
  have enn : (n : Int) * (n : Int) = (len : Int) := by rw [hl, Int.natCast_mul]
  have HL := Lib.hid hl
  clear hz hl
  have t1 : decide ((n : Int) < 0) = false := by simp
  have t2 : decide (128 < (n : Int)) = false := by simp; omega
  go_enter Tryd.func17, Tryd.ntmps17
  go_wp2_with fail
  clear enn t1 t2
  go_loopw [24] (fun s wr => ∃ k : Nat, k ≤ n ∧ s = .int .i64 k ∧ symTo n d k = true ∧ Mod (fun _ => False) w wr) (fun s _ => n - (intOf s).toNat)
  case atStart => exact ⟨0, Nat.zero_le _, rfl, rfl, Mod.refl _ _⟩
  case round =>
    obtain ⟨k, hk, rfl, hs, hm⟩ := hrel
    have HS := Lib.hid hs
    have HM := Lib.hid hm
    clear hs
    by_cases hkn : k < n
    · have hxl : k * n + k < len := by rw [HL.out]; exact idx_lt hkn hkn
      obtain rfl := HZ.out.adr (by omega)
      have c1 := (HZ.out.mod hm (fun _ h => h)).cell (k * n + k) hxl
      have HA : Hid (at2 n d k k = d.getD (k * n + k) 0) := rfl
      have e1 : (k : Int) * (n : Int) = ((k * n : Nat) : Int) := by rw [Int.natCast_mul]
      obtain ⟨kn, HKN⟩ : ∃ kn, Hid (k * n = kn) := ⟨_, rfl⟩
      rw [HKN.out] at hxl c1 HA e1
      generalize d.getD (kn + k) 0 = x at c1 HA
      clear hm
      by_cases hx : x = 0
      · have t3 : (x != 0) = false := by simp [hx]
        have HX := Lib.hid hx
        clear hx
        go_wp2_with fail
        clear c1 t3
        obtain ⟨wq, rfl⟩ : ∃ wq : World, wq = wr := ⟨_, rfl⟩
        go_loopw [37] (fun s wr => ∃ j : Nat, j ≤ k ∧ s = .int .i64 j ∧ (∀ i, i < j → at2 n d k i = at2 n d i k) ∧ Mod (fun _ => False) w wr) (fun s _ => k - (intOf s).toNat)
        case atStart => exact ⟨0, Nat.zero_le _, rfl, fun i hi => by omega, HM.out⟩
        case round =>
          obtain ⟨j, hj, rfl, hall, hm⟩ := hrel
          have HALL := Lib.hid hall
          have HM2 := Lib.hid hm
          clear hall
          by_cases hjk : j < k
          · have hx1 : k * n + j < len := by rw [HL.out]; exact idx_lt hkn (by omega)
            have hx2 : j * n + k < len := by rw [HL.out]; exact idx_lt (by omega) hkn
            have c1 := (HZ.out.mod hm (fun _ h => h)).cell _ hx1
            have c2 := (HZ.out.mod hm (fun _ h => h)).cell _ hx2
            have HA1 : Hid (at2 n d k j = d.getD (k * n + j) 0) := rfl
            have HA2 : Hid (at2 n d j k = d.getD (j * n + k) 0) := rfl
            have e2 : (j : Int) * (n : Int) = ((j * n : Nat) : Int) := by rw [Int.natCast_mul]
            have hkn' : k * n = kn := HKN.out
            rw [hkn'] at hx1 c1 HA1
            generalize j * n = jn at hx2 c2 HA2 e2
            generalize d.getD (kn + j) 0 = x1 at c1 HA1
            generalize d.getD (jn + k) 0 = x2 at c2 HA2
            clear hm hkn'
            by_cases hxx : x1 = x2
            · have t3 : (x1 != x2) = false := by simp [hxx]
              have HXX := Lib.hid hxx
              clear hxx
              go_wp2_with fail
              go_quiet (fail)
              go_wp2_with fail
              go_roundw
              case rel => exact ⟨j + 1, by omega, by go_num, fun i hi => by
                by_cases e : i < j
                · exact HALL.out i e
                · obtain rfl : i = j := by omega
                  rw [HA1.out, HA2.out]; exact HXX.out, HM2.out.drewN _⟩
              case measure => simp [intOf]; omega
            · have t3 : (x1 != x2) = true := by simp [hxx]
              have HXX := Lib.hid hxx
              clear hxx
              go_wp2_with fail
              go_quiet (fail)
              go_wp2_with fail
              go_ret
              refine ⟨ret_int ?_, (HM2.out.drewN _).below (Nat.le_refl _) (fun _ h => h.elim)⟩
              exact (checkL_sym HDL.out hn (by omega : k + 1 ≤ n) (symTo_pair hjk (by rw [HA1.out, HA2.out]; exact HXX.out))).symm
          · obtain rfl : j = k := by omega
            clear hm
            go_wp2_with fail
            go_roundw
            case rel => exact ⟨j + 1, by omega, by go_num, symTo_step HS.out (HA.out.trans HX.out) HALL.out, HM2.out⟩
            case measure => simp [intOf]; omega
      · have t3 : (x != 0) = true := by simp [hx]
        have HX := Lib.hid hx
        clear hx
        go_wp2_with fail
        go_ret
        refine ⟨ret_int ?_, HM.out.below (Nat.le_refl _) (fun _ h => h.elim)⟩
        exact (checkL_sym HDL.out hn (by omega : k + 1 ≤ n) (symTo_diag (by rw [HA.out]; exact HX.out))).symm
    · obtain rfl : k = n := by omega
      clear hm
      go_wp2_with fail
      obtain ⟨wq, rfl⟩ : ∃ wq : World, wq = wr := ⟨_, rfl⟩
      go_loopw [61] (fun s wr => ∃ i : Nat, i ≤ len ∧ s = .int .i64 i ∧ (∀ j, j < i → 0 ≤ d.getD j 0 ∧ d.getD j 0 ≤ 1099511627776) ∧ Mod (fun _ => False) w wr) (fun s _ => len - (intOf s).toNat)
      case atStart => exact ⟨0, Nat.zero_le _, rfl, fun i hi => by omega, HM.out⟩
      case round =>
        obtain ⟨i, hi, rfl, hall, hm⟩ := hrel
        have HALL := Lib.hid hall
        have HM2 := Lib.hid hm
        clear hall
        by_cases hil : i < len
        · obtain rfl := HZ.out.adr (by omega)
          have c1 := (HZ.out.mod hm (fun _ h => h)).cell i hil
          have HX : Hid (d.getD i 0 = d.getD i 0) := rfl
          obtain ⟨x, HXE⟩ : ∃ x, Hid (d.getD i 0 = x) := ⟨_, rfl⟩
          rw [HXE.out] at c1
          clear hm HX
          by_cases h1 : x < 0
          · have t3 : decide (x < 0) = true := by simp [h1]
            have H1 := Lib.hid h1
            clear h1
            go_wp2_with fail
            go_ret
            refine ⟨ret_int ?_, HM2.out.below (Nat.le_refl _) (fun _ h => h.elim)⟩
            exact (checkL_lim HDL.out hn HS.out (by rw [HZ.out.size]; exact hil) (.inl (by rw [HXE.out]; exact H1.out))).symm
          · have t3 : decide (x < 0) = false := by simp; omega
            by_cases h2 : 1099511627776 < x
            · have t4 : decide (1099511627776 < x) = true := by simp [h2]
              have H2 := Lib.hid h2
              clear h1 h2
              go_wp2_with fail
              go_ret
              refine ⟨ret_int ?_, HM2.out.below (Nat.le_refl _) (fun _ h => h.elim)⟩
              exact (checkL_lim HDL.out hn HS.out (by rw [HZ.out.size]; exact hil) (.inr (by rw [HXE.out]; exact H2.out))).symm
            · have t4 : decide (1099511627776 < x) = false := by simp; omega
              have H2 : Hid (0 ≤ x ∧ x ≤ 1099511627776) := ⟨by omega, by omega⟩
              clear h1 h2
              go_wp2_with fail
              go_roundw
              case rel => exact ⟨i + 1, by omega, by go_num, fun j hj => by
                by_cases e : j < i
                · exact HALL.out j e
                · obtain rfl : j = i := by omega
                  rw [HXE.out]; exact H2.out, HM2.out⟩
              case measure => simp [intOf]; omega
        · obtain rfl : i = len := by omega
          clear hm
          go_wp2_with fail
          go_ret
          refine ⟨ret_int ?_, HM2.out.below (Nat.le_refl _) (fun _ h => h.elim)⟩
          exact (checkL_ok HDL.out hn HS.out (fun j hj => HALL.out j (by rw [HZ.out.size] at hj; exact hj))).symm

end Go.Proofs.YthhddjknjnjbhaaDoor
