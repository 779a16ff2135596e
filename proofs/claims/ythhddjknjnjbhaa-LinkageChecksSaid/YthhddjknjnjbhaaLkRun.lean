/- The walk of LinkageRuns. -/
import Derived.Test.YthhddjknjnjbhaaLkBet
import Derived.Test.YthhddjknjnjbhaaLkZ
namespace Go.Proofs.Ythhddjknjnjbhaa
set_option linter.unusedVariables false
set_option linter.unusedSimpArgs false
open Go.RowKit

set_option maxHeartbeats 2000000 in
theorem run_badm (w : World) (n : Int) (m : Int) (hm : ¬ (m = 1 ∨ m = 2 ∨ m = 3)) (ao : Option Addr) (len cap : Nat) :
    Calls Try.prog 9 #[.int .i64 n, .slice ao len cap, .int .i64 m] w (RetB (.tuple #[.slice none 0 0, .int .i64 2]) w) := by
  have HN := Lib.hid (mixF_nil hm)
  clear hm
  refine (callsIn_wide (n := 3)).1 ?_
  refine callsIn_of_wp_marks Try.func9 rfl trivial ?_ rfl
  simp only [Try.ntmps9, List.size_toArray, List.length_cons, List.length_nil, Nat.reduceAdd, Nat.reduceSub, Array.replicate_succ, Array.replicate_zero, List.push_toArray, List.append_toArray, List.nil_append, List.cons_append]
  gi_wp2_with fail
  refine ⟨trivial, CallsIn.mono (callsIn_wide.2 (mixer_ok m w)) ?_⟩
  rintro e w1 ⟨rfl, rfl⟩
  rw [HN.out]
  have q1 : (binOp BinOp.eql 48 Value.nilFunc Value.nilFunc).run Try.prog w = .ok (.bool true) w := rfl
  gi_wp2_with fail
  exact ⟨_, results_tmp2 rfl _ _ _, rfl, Below.refl _ _⟩

set_option maxHeartbeats 2000000 in
theorem rrun_badm (w : World) (n : Int) (m : Int) (hm : ¬ (m = 1 ∨ m = 2 ∨ m = 3)) (ao : Option Addr) (len cap : Nat) :
    Calls Try.prog 12 #[.int .i64 n, .slice ao len cap, .int .i64 m] w (RetB (.tuple #[.slice none 0 0, .int .i64 2]) w) := by
  have HN := Lib.hid (decide_eq_false hm)
  clear hm
  go_enter Try.func12, Try.ntmps12
  go_wp2_with fail
  with_reducible refine (method_ok m w).mono ?_
  rintro e w1 ⟨rfl, rfl⟩
  rw [HN.out]
  go_wp2_with fail
  go_ret2
  exact ⟨rfl, Below.refl _ _⟩

theorem runL_len (n : Nat) (m : Int) (d : List Int) : (runL n m d).length = n - 1 := runS_ms_length n m d (n - 1)

theorem row_merges {w : World} {v : Value} {n : Nat} {m : Int} {d : List Int} {T : TypeId} (h : w.ownsRow 0 T 5 v (n - 1) ((runL n m d).flatMap Mg.cells)) : ∃ ao cap b, v = .slice ao (n - 1) cap ∧ MRow w ao (n - 1) b 0 (runL n m d) := by
  rw [← runL_len n m d] at h
  obtain ⟨ao, cap, b, h1, h2, _⟩ := MRow.of_owns h
  rw [runL_len] at h1 h2
  exact ⟨ao, cap, b, h1, h2⟩

set_option maxHeartbeats 4000000 in
set_option maxRecDepth 100000 in
theorem runs_law (n : Int) (hn : 0 ≤ n ∧ n ≤ 255) (ao : Option Addr) (len cap b off : Nat) (z : List Int) (m : Int) (w : World)
    (hz : InRow .u64 w ao len b off z) (hlen : len ≤ 9223372036854775807) (hu : ∀ x ∈ z, 0 ≤ x ∧ x < 18446744073709551616) :
    Calls Try.prog 4 #[.int .u8 n, .slice ao len cap, .int .i64 m] w (RetB (.bool true) w) := by
  have HZ := Lib.hid hz
  have HU := Lib.hid hu
  clear hz hu
  obtain ⟨n0, rfl⟩ := Int.eq_ofNat_of_zero_le hn.1
  have hn0 : n0 ≤ 255 := by omega
  have r1 : Int.tmod (n0 : Int) 15 = ((n0 % 15 : Nat) : Int) := by rw [Int.tmod_eq_emod_of_nonneg (by omega)]; simp
  have hk : n0 % 15 < 15 := Nat.mod_lt _ (by omega)
  obtain ⟨k, HK⟩ : ∃ k, Hid (n0 % 15 = k) := ⟨_, rfl⟩
  rw [HK.out] at r1 hk
  clear hn
  go_enter Try.func4, Try.ntmps4
  go_wp2_with fail
  with_reducible refine (points_ok w k (by omega) ao len cap b off z HZ.out hlen HU.out).mono ?_
  rintro e w1 ⟨rfl, hblk, hb1⟩
  have HD1 := Lib.hid (pts_row hblk)
  have HB1 := Lib.hid hb1
  have HCK := Lib.hid (pts_check (n := k) (by omega) z)
  clear hblk hb1
  obtain ⟨nn, HNN⟩ : ∃ nn, Hid (k * k = nn) := ⟨_, rfl⟩
  rw [HNN.out] at HD1 ⊢
  by_cases hm : m = 1 ∨ m = 2 ∨ m = 3
  · have HM := Lib.hid hm
    clear hm
    go_wp2_with fail
    with_reducible refine (run_ok w1 k m HM.out (some ⟨w.heap.size, 0, none⟩) nn nn w.heap.size 0 (ptsL k z) HD1.out (fun h => by cases h) HNN.out.symm (by omega) HCK.out).mono ?_
    rintro e w2 ⟨v2, rfl, ho2, hb2, _⟩
    obtain ⟨o2, c2, b2, rfl, hr2⟩ := row_merges ho2
    have HD2 := Lib.hid (HD1.out.below hb2)
    have HR2 := Lib.hid hr2
    have HB2 := Lib.hid (HB1.out.trans (hb2.mono HB1.out.size))
    clear ho2 hb2 hr2 HD1 HB1
    go_wp2_with fail
    with_reducible refine (rrun_ok w2 k m HM.out (some ⟨w.heap.size, 0, none⟩) nn nn w.heap.size 0 (ptsL k z) HD2.out (by omega) HCK.out).mono ?_
    rintro e w3 ⟨v3, rfl, ho3, hb3⟩
    obtain ⟨o3, c3, b3, rfl, hr3⟩ := row_merges ho3
    have HR3 := Lib.hid hr3
    have HR2' := Lib.hid (HR2.out.below hb3)
    have HB3 := Lib.hid (HB2.out.trans (hb3.mono HB2.out.size))
    clear ho3 hb3 hr3 HR2 HB2
    obtain ⟨k1, HK1⟩ : ∃ k1, Hid (k - 1 = k1) := ⟨_, rfl⟩
    have hk1 : k - 1 ≤ 14 := by omega
    rw [HK1.out] at HR3 HR2' hk1 ⊢
    simp only [HK1.out]
    go_wp2_with fail
    with_reducible refine (same_ok w3 o2 o3 k1 c2 c3 b2 b3 0 0 (runL k m (ptsL k z)) HR2'.out HR3.out (by omega)).mono ?_
    rintro e w4 ⟨rfl, hb4⟩
    have HB4 := Lib.hid (HB3.out.trans (hb4.mono HB3.out.size))
    clear hb4
    go_wp2_with fail
    with_reducible refine (works_ok w4).mono ?_
    rintro e w5 ⟨rfl, hb5⟩
    have HB5 := Lib.hid (HB4.out.trans (hb5.mono HB4.out.size))
    clear hb5
    go_wp2_with fail
    go_ret
    exact ⟨rfl, HB5.out⟩
  · have HM := Lib.hid hm
    clear hm
    go_wp2_with fail
    with_reducible refine (run_badm w1 k m HM.out _ nn nn).mono ?_
    rintro e w2 ⟨rfl, hb2⟩
    have HB2 := Lib.hid (HB1.out.trans (hb2.mono HB1.out.size))
    clear hb2
    go_wp2_with fail
    with_reducible refine (rrun_badm w2 k m HM.out _ nn nn).mono ?_
    rintro e w3 ⟨rfl, hb3⟩
    have HB3 := Lib.hid (HB2.out.trans (hb3.mono HB2.out.size))
    clear hb3
    go_wp2_with fail
    with_reducible refine (same_ok w3 none none 0 0 0 0 0 0 0 [] ⟨rfl, by omega, by omega⟩ ⟨rfl, by omega, by omega⟩ (by omega)).mono ?_
    rintro e w4 ⟨rfl, hb4⟩
    have HB4 := Lib.hid (HB3.out.trans (hb4.mono HB3.out.size))
    clear hb4
    go_wp2_with fail
    with_reducible refine (works_ok w4).mono ?_
    rintro e w5 ⟨rfl, hb5⟩
    have HB5 := Lib.hid (HB4.out.trans (hb5.mono HB4.out.size))
    clear hb5
    go_wp2_with fail
    go_ret
    exact ⟨rfl, HB5.out⟩

end Go.Proofs.Ythhddjknjnjbhaa
