/- The walk of LinkageBetween. -/
import Derived.Test.YthhddjknjnjbhaaLkX
import Derived.Test.YthhddjknjnjbhaaLkRf
namespace Go.Proofs.Ythhddjknjnjbhaa
set_option linter.unusedVariables false
set_option linter.unusedSimpArgs false
open Go.RowKit

theorem u8_of {a : Int} (h : (Lit.int .u8 a).wf = true) : 0 ≤ a ∧ a ≤ 255 := by
  simp [Lit.wf, IntKind.min, IntKind.max, IntKind.signed, IntKind.bits] at h
  exact ⟨by omega, by omega⟩

theorem u64_of {a : Int} (h : (Lit.int .u64 a).wf = true) : 0 ≤ a ∧ a < 18446744073709551616 := by
  simp [Lit.wf, IntKind.min, IntKind.max, IntKind.signed, IntKind.bits] at h
  exact ⟨by omega, by omega⟩

theorem nil_of {k : IntKind} {w : World} {a : Option Addr} {len cap : Nat} {zs : List Int}
    (h : (a = none ∧ len = 0 ∧ cap = 0 ∧ zs = []) ∨
      ∃ x, a = some x ∧ len ≤ cap ∧ cap ≤ maxLen ∧ zs.length = cap ∧ (∀ i, i < zs.length → w.cell? (x.add i) = some (.int k (zs.getD i 0))) ∧ ∀ n ∈ zs, (Lit.int k n).wf = true) : a = none → cap = 0 := by
  intro ha
  rcases h with ⟨_, _, hc, _⟩ | ⟨x, hx, _⟩
  · exact hc
  · rw [ha] at hx; cases hx

theorem wpList_runU {P : Program} {ops : Array Oper} {rest : List Oper} {d : Tmp} {t ty : TypeId} {s x : Operand} {pos : String} {aft : Array Edge} {a : Act} {Q : Exit → Act → World → Prop} {w : World}
    (sv xv v' : Value) (w' : World) (hs : a.eval s = sv) (hx : a.eval x = xv) (hr : (Builtin.append_ #[t, t] ty #[sv, xv]).run P w = .ok v' w')
    (h : Unit → wpList P ops Q rest (a.put (some d) v') w') :
    wpList P ops Q (⟨some d, .call { callee := .builtin .append, args := #[s, x], argTypes := #[t, t] }, ty, pos, aft, none⟩ :: rest) a w :=
  wpList_run sv xv v' w' hs hx hr (h ())

theorem betL_more {k : Nat} {d : List Int} (hl : d.length = k * k) (m : Int) (a b : List Int) : betL ((k + 1 : Nat) : Int) d m a b = (0, 0, 2) := by
  by_cases hm : m = 1 ∨ m = 2 ∨ m = 3
  · have hc : checkL ((k + 1 : Nat) : Int) d = 2 := by
      refine checkL_arg (.inr (.inr ?_))
      rw [hl, ← Int.natCast_mul]
      intro e
      have e' : k * k = (k + 1) * (k + 1) := Int.ofNat.inj e
      rw [Nat.succ_mul, Nat.mul_succ] at e'
      omega
    have := betL_c (a := a) (b := b) hm (by rw [hc]; omega)
    rw [hc] at this
    exact this
  · exact betL_m hm

theorem pts_row {w : World} {k b : Nat} {z : List Int} {T : TypeId} (h : Blk w b T ((ptsL k z).map fun y => .int .i64 y)) : InRow .i64 w (some ⟨b, 0, none⟩) (k * k) b 0 (ptsL k z) := by
  have := InRow.of_blk h
  rw [pts_len] at this
  exact this

set_option maxHeartbeats 4000000 in
set_option maxRecDepth 100000 in
theorem bet_law (n : Int) (hn : 0 ≤ n ∧ n ≤ 255) (ao : Option Addr) (len cap b off : Nat) (z : List Int) (m : Int) (xo yo : Option Addr) (la lb ca cb pa pb oa ob : Nat) (xs ys : List Int) (w : World)
    (hz : InRow .u64 w ao len b off z) (hlen : len ≤ 9223372036854775807) (hu : ∀ x ∈ z, 0 ≤ x ∧ x < 18446744073709551616) (hx : InRow .i64 w xo la pa oa xs) (hy : InRow .i64 w yo lb pb ob ys) (hla : la ≤ 9223372036854775807) (hlb : lb ≤ 9223372036854775807) (hxc : xo = none → ca = 0) (hyc : yo = none → cb = 0) :
    Calls Try.prog 5 #[.int .u8 n, .slice ao len cap, .int .i64 m, .slice xo la ca, .slice yo lb cb] w (RetB (.bool true) w) := by
  have HZ := Lib.hid hz
  have HU := Lib.hid hu
  have HX := Lib.hid hx
  have HY := Lib.hid hy
  have HXC := Lib.hid hxc
  have HYC := Lib.hid hyc
  clear hz hu hx hy hxc hyc
  by_cases h1 : 30 < la
  · have t1 : decide (30 < (la : Int)) = true := by simp; omega
    go_enter Try.func5, Try.ntmps5
    go_wp2_with fail
    with_reducible refine (works_ok w).mono ?_
    rintro e w1 ⟨rfl, hb1⟩
    have HB1 := Lib.hid hb1
    clear hb1
    go_wp2_with fail
    go_ret
    exact ⟨rfl, HB1.out⟩
  · have t1 : decide (30 < (la : Int)) = false := by simp; omega
    by_cases h2 : 30 < lb
    · have t2 : decide (30 < (lb : Int)) = true := by simp; omega
      go_enter Try.func5, Try.ntmps5
      go_wp2_with fail
      with_reducible refine (works_ok w).mono ?_
      rintro e w1 ⟨rfl, hb1⟩
      have HB1 := Lib.hid hb1
      clear hb1
      go_wp2_with fail
      go_ret
      exact ⟨rfl, HB1.out⟩
    · have t2 : decide (30 < (lb : Int)) = false := by simp; omega
      have hla3 : la ≤ 30 := by omega
      have hlb3 : lb ≤ 30 := by omega
      clear h1 h2
      obtain ⟨n0, rfl⟩ := Int.eq_ofNat_of_zero_le hn.1
      have hn0 : n0 ≤ 255 := by omega
      have r1 : Int.tmod (n0 : Int) 15 = ((n0 % 15 : Nat) : Int) := by rw [Int.tmod_eq_emod_of_nonneg (by omega)]; simp
      have hk : n0 % 15 < 15 := Nat.mod_lt _ (by omega)
      obtain ⟨k, HK⟩ : ∃ k, Hid (n0 % 15 = k) := ⟨_, rfl⟩
      rw [HK.out] at r1 hk
      clear hn
      go_enter Try.func5, Try.ntmps5
      go_wp2_with fail
      with_reducible refine (points_ok w k (by omega) ao len cap b off z HZ.out hlen HU.out).mono ?_
      rintro e w1 ⟨rfl, hblk, hb1⟩
      have HD1 := Lib.hid (pts_row hblk)
      have HB1 := Lib.hid hb1
      clear hblk hb1
      have hkk : k * k ≤ 14 * 14 := Nat.mul_le_mul (by omega) (by omega)
      obtain ⟨nn, HNN⟩ : ∃ nn, Hid (k * k = nn) := ⟨_, rfl⟩
      have HPL : Hid ((ptsL k z).length = k * k) := pts_len k z
      rw [HNN.out] at hkk HD1 ⊢
      obtain ⟨v2, w2, hr2, ho2, hb2, hn2⟩ := run_copyI w1 xo la ca pa oa xs (HX.out.below HB1.out) HXC.out (by omega)
      obtain ⟨v3, w3, hr3, ho3, hb3, hn3⟩ := run_copyI w2 yo lb cb pb ob ys ((HY.out.below HB1.out).below hb2) HYC.out (by omega)
      have hsx : xs.length = la := HX.out.size
      have hsy : ys.length = lb := HY.out.size
      rw [← hsx] at ho2
      rw [← hsy] at ho3
      obtain ⟨qo, qc, qb, rfl, hq, _⟩ := owns_row ho2
      obtain ⟨po, pc, pbk, rfl, hp, _⟩ := owns_row ho3
      rw [hsx] at hq hr2
      rw [hsy] at hp hr3
      have HR2 := Lib.hid hr2
      have HR3 := Lib.hid hr3
      have HQ3 := Lib.hid (hq.below hb3)
      have HP3 := Lib.hid hp
      have HD3 := Lib.hid ((HD1.out.below hb2).below hb3)
      have HB3 := Lib.hid ((HB1.out.trans (hb2.mono HB1.out.size)).trans (hb3.mono (Nat.le_trans HB1.out.size hb2.size)))
      clear hr2 ho2 hb2 hn2 hr3 ho3 hb3 hn3 hq hp hsx hsy HD1 HB1
      go_wp2_with (at_builtin; with_reducible refine wpList_runU (.slice (some ⟨w1.heap.size, 0, none⟩) 0 0) (.slice xo la ca) (.slice qo la qc) w2 rfl rfl HR2.out ?_)
      intro _
      simp only [Act.put, List.setIfInBounds_toArray, List.set_cons_succ, List.set_cons_zero]
      go_wp2_with (at_builtin; with_reducible refine wpList_runU (.slice (some ⟨w2.heap.size, 0, none⟩) 0 0) (.slice yo lb cb) (.slice po lb pc) w3 rfl rfl HR3.out ?_)
      intro _
      go_wp2_with fail
      clear HR2 HR3
      have hbet := between_ok w3 (k : Int) m (some ⟨w.heap.size, 0, none⟩) nn nn w.heap.size 0 (ptsL k z) HD3.out (by omega) qo po la lb qc pc qb pbk 0 0 xs ys HQ3.out HP3.out (by omega) (by omega)
      obtain ⟨N, D, er, HR⟩ : ∃ N D er, Hid (betL (k : Int) (ptsL k z) m xs ys = (N, D, er)) := ⟨_, _, _, rfl⟩
      rw [HR.out] at hbet
      unfold betV at hbet
      dsimp only at hbet
      have HBET := Lib.hid hbet
      clear hbet
      with_reducible refine HBET.out.mono ?_
      rintro e w4 ⟨rfl, hb4⟩
      have hb4' := bel_then hb4 ((Below.refl w4.heap.size w4).alloc (Nat.le_refl _) (.cells #[.int .i64 N, .int .i64 D] 38))
      have F4 := Lib.hid (Blk.new w4 38 [.int .i64 N, .int .i64 D])
      have HQ4 := Lib.hid (HQ3.out.below hb4')
      have HP4 := Lib.hid (HP3.out.below hb4')
      have HD4 := Lib.hid (HD3.out.below hb4')
      have HB4 := Lib.hid (HB3.out.trans (hb4'.mono HB3.out.size))
      clear hb4 hb4' HQ3 HP3 HD3 HB3 HBET
      go_wp2_with fail
      generalize hW4 : w4.alloc _ = W4 at *
      generalize w4.heap.size = fa at *
      clear hW4
      have hrb := rbetween_ok W4 (k : Int) m (some ⟨w.heap.size, 0, none⟩) nn nn w.heap.size 0 (ptsL k z) HD4.out (by omega) xo yo la lb ca cb pa pb oa ob xs ys (HX.out.below HB4.out) (HY.out.below HB4.out) hla3 hlb3 HXC.out HYC.out
      rw [HR.out] at hrb
      unfold betV at hrb
      dsimp only at hrb
      have HRB := Lib.hid hrb
      clear hrb
      with_reducible refine HRB.out.mono ?_
      rintro e w5 ⟨rfl, hb5⟩
      have hb5' := bel_then hb5 ((Below.refl w5.heap.size w5).alloc (Nat.le_refl _) (.cells #[.int .i64 N, .int .i64 D] 38))
      have F5 := Lib.hid (Blk.new w5 38 [.int .i64 N, .int .i64 D])
      have G5 := Lib.hid (F4.out.below hb5' F4.out.lt)
      have HQ5 := Lib.hid (HQ4.out.below hb5')
      have HP5 := Lib.hid (HP4.out.below hb5')
      have HD5 := Lib.hid (HD4.out.below hb5')
      have HB5 := Lib.hid (HB4.out.trans (hb5'.mono HB4.out.size))
      clear hb5 hb5' F4 HQ4 HP4 HD4 HB4 HRB
      have ek : (k : Int) + 1 = ((k + 1 : Nat) : Int) := by omega
      have EK := Lib.hid ek
      clear ek
      go_wp2_with fail
      generalize hW5 : w5.alloc _ = W5 at *
      generalize w5.heap.size = fb at *
      clear hW5
      have hmo := between_ok W5 ((k + 1 : Nat) : Int) m (some ⟨w.heap.size, 0, none⟩) nn nn w.heap.size 0 (ptsL k z) HD5.out (by omega) xo yo la lb ca cb pa pb oa ob xs ys (HX.out.below HB5.out) (HY.out.below HB5.out) (by omega) (by omega)
      rw [betL_more HPL.out, ← EK.out] at hmo
      unfold betV at hmo
      dsimp only at hmo
      have HMO := Lib.hid hmo
      clear hmo
      with_reducible refine HMO.out.mono ?_
      rintro e w6 ⟨rfl, hb6⟩
      have hb6' := bel_then hb6 ((Below.refl w6.heap.size w6).alloc (Nat.le_refl _) (.cells #[.int .i64 0, .int .i64 0] 38))
      have F6 := Lib.hid (Blk.new w6 38 [.int .i64 0, .int .i64 0])
      have G6 := Lib.hid (G5.out.below hb6' G5.out.lt)
      have K6 := Lib.hid (F5.out.below hb6' F5.out.lt)
      have HQ6 := Lib.hid (HQ5.out.below hb6')
      have HP6 := Lib.hid (HP5.out.below hb6')
      have HB6 := Lib.hid (HB5.out.trans (hb6'.mono HB5.out.size))
      clear hb6 hb6' F5 G5 HQ5 HP5 HD5 HB5 HMO
      have a0 := G6.out.cell (i := 0) rfl
      have a1 := G6.out.cell (i := 1) rfl
      have b0 := K6.out.cell (i := 0) rfl
      have b1 := K6.out.cell (i := 1) rfl
      have t5 : (er == er) = true := by simp
      have t6 : (N == N) = true := by simp
      have t7 : (D == D) = true := by simp
      go_wp2_with fail
      generalize hW6 : w6.alloc _ = W6 at *
      generalize w6.heap.size = fc at *
      clear hW6 a0 a1 b0 b1
      with_reducible refine (alike_ok W6 qo xo la qc ca qb pa 0 oa xs HQ6.out (HX.out.below HB6.out) (by omega)).mono ?_
      rintro e w7 ⟨rfl, hb7⟩
      have HP7 := Lib.hid (HP6.out.below hb7)
      have HB7 := Lib.hid (HB6.out.trans (hb7.mono HB6.out.size))
      have F7 := Lib.hid (F6.out.below hb7 F6.out.lt)
      clear hb7 HP6 HB6 F6 HQ6 G6 K6
      go_wp2_with fail
      with_reducible refine (alike_ok w7 po yo lb pc cb pbk pb 0 ob ys HP7.out (HY.out.below HB7.out) (by omega)).mono ?_
      rintro e w8 ⟨rfl, hb8⟩
      have HB8 := Lib.hid (HB7.out.trans (hb8.mono HB7.out.size))
      have F8 := Lib.hid (F7.out.below hb8 F7.out.lt)
      clear hb8 HP7 HB7 F7
      have a0 := F8.out.cell (i := 0) rfl
      have a1 := F8.out.cell (i := 1) rfl
      go_wp2_with fail
      clear a0 a1
      with_reducible refine (works_ok w8).mono ?_
      rintro e w9 ⟨rfl, hb9⟩
      have HB9 := Lib.hid (HB8.out.trans (hb9.mono HB8.out.size))
      clear hb9
      go_wp2_with fail
      go_ret
      exact ⟨rfl, HB9.out⟩

end Go.Proofs.Ythhddjknjnjbhaa
