/- Several texts in one: LcU, LcV, LcW. -/
import Derived.Test.YtlooaipipmiijaaGreatZX28
namespace Go.Proofs.YtlooaipipmiijaaGreat
set_option linter.unusedVariables false
set_option linter.unusedSimpArgs false
open Go.RowKit
set_option maxHeartbeats 8000000 in
set_option maxRecDepth 100000 in
theorem lc_expose (w : World) (p g n : Nat) (N : NS) (ed : Int) (h : LObj w p g n N ed) (i : Nat) (hi : i ≤ n) (N' : NS) (r : Nat) (hs : ExposeR N i N' r) :
    Calls Tryz.prog 113 #[.pointer (some ⟨p, 0, none⟩), .int .i64 (i : Int)] w (LPost w p g n N' ed (.int .i64 (r : Int))) := by
  obtain ⟨m, N1, hex, hsp⟩ := hs
  have hn := h.nb
  have HO0 := Lib.hid h
  have HEX := Lib.hid hex
  have HSP := Lib.hid hsp
  clear h hex hsp
  go_enter Tryz.func113, Tryz.ntmps113
  go_wp2_with fail
  go_loopw [5, 6] (fun s5 s6 wr => ∃ (M : NS) (m j b : Nat), s5 = .int .i64 (b : Int) ∧ s6 = .int .i64 (j : Int) ∧ j ≤ n ∧ b ≤ n ∧ LObj wr p g n M ed ∧ ExR m M j b N1 r ∧ Mod (fun x => x = g) w wr) (fun s5 s6 wr => leastN (fun m => ∃ M, LObj wr p g n M ed ∧ ExR m M (intOf s6).toNat (intOf s5).toNat N1 r))
  case atStart => exact ⟨N, m, i, 0, rfl, rfl, hi, Nat.zero_le _, HO0.out, HEX.out, Mod.refl _ _⟩
  case round =>
    obtain ⟨M0, m0, j, b, rfl, rfl, hj, hb, ho0, he0, hm0⟩ := hrel
    clear HO0 HEX
    obtain ⟨⟨M, hoM, heM⟩, _⟩ := leastN_at (P := fun m => ∃ M, LObj wr p g n M ed ∧ ExR m M j b N1 r) ⟨M0, ho0, he0⟩
    have HMS : Hid (leastN (fun m => ∃ M, LObj wr p g n M ed ∧ ExR m M (intOf (.int .i64 (j : Int))).toNat (intOf (.int .i64 (b : Int))).toNat N1 r) = leastN (fun m => ∃ M, LObj wr p g n M ed ∧ ExR m M j b N1 r)) := rfl
    obtain ⟨mm, HMM⟩ : ∃ mm, Hid (leastN (fun m => ∃ M, LObj wr p g n M ed ∧ ExR m M j b N1 r) = mm) := ⟨_, rfl⟩
    rw [HMM.out] at heM
    have HO1 := Lib.hid hoM
    have HM1 := Lib.hid hm0
    clear ho0 he0 hm0 hoM
    cases heM with
    | done =>
      go_wp2_with fail
      with_reducible refine (lc_splay wr p g n _ ed HO1.out i hi N' HSP.out).mono ?_
      rintro e w2 ⟨rfl, ho2, hm2⟩
      have HO2 := Lib.hid ho2
      have HM2 : Hid (Mod (fun x => x = g) w w2) := HM1.out.trans hm2 (fun _ _ e => e)
      clear ho2 hm2 HO1 HM1
      go_wp2_with fail
      go_ret
      exact ⟨rfl, HO2.out, HM2.out⟩
    | @step m1 _ M1 _ _ _ _ hj0 hsp hp0 hp1 hk =>
      have HKK := Lib.hid hk
      have HP0 := Lib.hid hp0
      have HP1 := Lib.hid hp1
      have t0 : ((j : Int) == 0) = false := by simpa using hj0
      have t0' : (j == 0) = false := by simpa using hj0
      have t0'' : decide (j = 0) = false := decide_eq_false hj0
      clear hk hp0 hp1
      go_wp2_with fail
      with_reducible refine (lc_splay wr p g n _ ed HO1.out j hj M1 hsp).mono ?_
      rintro e w2 ⟨rfl, ho2, hm2⟩
      have HO2 := Lib.hid ho2
      have HM2 : Hid (Mod (fun x => x = g) w w2) := HM1.out.trans hm2 (fun _ _ e => e)
      clear ho2 hm2 HO1 HM1 hsp hj0
      obtain ⟨cap1, c1⟩ := HO2.out.c1
      obtain ⟨a, HA⟩ : ∃ a, Hid ((M1 j).k1 = a) := ⟨_, rfl⟩
      have han : a ≤ n := by rw [← HA.out]; exact (HO2.out.bd j hj).2.1
      have q1 : w2.cell? ⟨g, j * 9 + 1, none⟩ = some (.int .i64 (a : Int)) := by rw [← HA.out]; exact HO2.out.at_ hj 1 (by omega)
      have q7 : w2.cell? ⟨g, j * 9 + 7, none⟩ = some (.int .i64 (M1 j).lt) := HO2.out.at_ hj 7 (by omega)
      have qa : w2.cell? ⟨g, a * 9 + 8, none⟩ = some (.int .i64 (M1 a).tot) := HO2.out.at_ han 8 (by omega)
      have qb : w2.cell? ⟨g, b * 9 + 8, none⟩ = some (.int .i64 (M1 b).tot) := HO2.out.at_ hb 8 (by omega)
      have f7 : w2.frozen? ⟨g, j * 9 + 7, none⟩ = false := HO2.out.fr _
      obtain ⟨z, HZ⟩ : ∃ z, Hid (w64 ((M1 j).lt + w64 ((M1 a).tot - (M1 b).tot)) = z) := ⟨_, rfl⟩
      obtain ⟨y, HY⟩ : ∃ y, Hid (w64 ((M1 a).tot - (M1 b).tot) = y) := ⟨_, rfl⟩
      have hy : IntKind.i64.wrap ((M1 a).tot - (M1 b).tot) = y := HY.out
      have hz : IntKind.i64.wrap ((M1 j).lt + y) = z := by have := HZ.out; rw [HY.out] at this; exact this
      have HO3 : Hid (∀ W, Mod (fun _ => False) w2 W → LObj (W.setCell ⟨g, j * 9 + 7, none⟩ (.int .i64 z)) p g n (updN M1 j { M1 j with lt := z }) ed) := fun W hW =>
        (HO2.out.mod hW (fun e => e) (fun e => e)).set (i := j) (j := 7) (v := { M1 j with lt := z }) hj (by omega) (HO2.out.bd j hj) (fun r hr hne => match r, hr, hne with
          | 0, _, _ => rfl
          | 1, _, _ => rfl
          | 2, _, _ => rfl
          | 3, _, _ => rfl
          | 4, _, _ => rfl
          | 5, _, _ => rfl
          | 6, _, _ => rfl
          | 8, _, _ => rfl) rfl
      generalize (M1 j).lt = x7 at q7 hz
      generalize (M1 a).tot = xa at qa hy
      generalize (M1 b).tot = xb at qb hy
      have gj1 : (j : Int) < (n + 1 : Nat) := by omega
      have gj2 : (0 : Int) ≤ (j : Int) := by omega
      have gj3 : (j : Int) < (n : Int) + 1 := by omega
      have gj4 : j < n + 1 := by omega
      have ga1 : (a : Int) < (n + 1 : Nat) := by omega
      have ga2 : (0 : Int) ≤ (a : Int) := by omega
      have ga3 : (a : Int) < (n : Int) + 1 := by omega
      have ga4 : a < n + 1 := by omega
      have gb1 : (b : Int) < (n + 1 : Nat) := by omega
      have gb2 : (0 : Int) ≤ (b : Int) := by omega
      have gb3 : (b : Int) < (n : Int) + 1 := by omega
      have gb4 : b < n + 1 := by omega
      go_upto_region 7 with fail
      refine region_tailD 28 (by kernel_rfl) (by kernel_rfl) ?_
      intro W3 hW3
      replace c1 := hW3.cell c1
      replace q1 := hW3.cell q1
      replace q7 := hW3.cell q7
      replace qa := hW3.cell qa
      replace qb := hW3.cell qb
      replace f7 := hW3.frozen f7
      have HMW3 := Lib.hid (hW3.mod (Mod.refl (fun _ => False) w2))
      clear hW3
      simp only [List.take_succ_cons, List.take_zero, List.drop_succ_cons, List.drop_zero]
      repeat still_step
      refine wpStill_nil ?_
      have HO4 := Lib.hid (HO3.out W3 HMW3.out)
      have HM4 : Hid (Mod (fun x => x = g) w (W3.setCell ⟨g, j * 9 + 7, none⟩ (.int .i64 z))) := (HM2.out.trans HMW3.out (fun _ _ e => e.elim)).setCell ⟨g, j * 9 + 7, none⟩ (fun _ => rfl) _
      go_upto_region 8 with fail
      clear c1 q1 q7 qa qb f7 hy hz HO3 HMW3 HO2 HM2
      generalize W3.setCell ⟨g, j * 9 + 7, none⟩ (.int .i64 z) = w4 at *
      have q1 : w4.cell? ⟨g, j * 9 + 1, none⟩ = some (.int .i64 (a : Int)) := by have := HO4.out.at_ hj 1 (by omega); rw [uN_same] at this; rw [← HA.out]; exact this
      have f1 : w4.frozen? ⟨g, j * 9 + 1, none⟩ = false := HO4.out.fr _
      have HO5 : Hid (LObj (w4.setCell ⟨g, j * 9 + 1, none⟩ (.int .i64 (b : Int))) p g n (att1 M1 j b) ed) := by
        obtain ⟨b0, b1, b2, b3⟩ := HO4.out.bd j hj
        rw [uN_same] at b0 b1 b2 b3
        have h1 := HO4.out.set (i := j) (j := 1) (v := { M1 j with lt := z, k1 := b }) hj (by omega) ⟨b0, hb, b2, b3⟩ (by rw [uN_same]; exact fun r hr hne => match r, hr, hne with
          | 0, _, _ => rfl
          | 2, _, _ => rfl
          | 3, _, _ => rfl
          | 4, _, _ => rfl
          | 5, _, _ => rfl
          | 6, _, _ => rfl
          | 7, _, _ => rfl
          | 8, _, _ => rfl) rfl
        rw [updN_twice] at h1
        have e : att1 M1 j b = updN M1 j { M1 j with lt := z, k1 := b } := by unfold att1; rw [HA.out, HZ.out]
        show LObj _ _ _ _ _ _
        rw [e]; exact h1
      have HM5 : Hid (Mod (fun x => x = g) w (w4.setCell ⟨g, j * 9 + 1, none⟩ (.int .i64 (b : Int)))) := HM4.out.setCell ⟨g, j * 9 + 1, none⟩ (fun _ => rfl) _
      go_upto_region 9 with fail
      clear q1 f1 HO4 HM4
      generalize w4.setCell ⟨g, j * 9 + 1, none⟩ (.int .i64 (b : Int)) = w5 at *
      go_wp2_with fail
      with_reducible refine (lc_refresh w5 p g n _ ed HO5.out j hj (by unfold att1; rw [uN_same]; exact HP0.out) (by unfold att1; rw [uN_same]; exact HP1.out)).mono ?_
      rintro e w6 ⟨rfl, ho6, hm6⟩
      have HO6 : Hid (LObj w6 p g n (attN M1 j b) ed) := ho6
      have HM6 : Hid (Mod (fun x => x = g) w w6) := HM5.out.trans hm6 (fun _ _ e => e)
      clear ho6 hm6 HO5 HM5
      obtain ⟨cap1, c1⟩ := HO6.out.c1
      obtain ⟨u, HU⟩ : ∃ u, Hid ((attN M1 j b j).up = u) := ⟨_, rfl⟩
      have hun : u ≤ n := by rw [← HU.out]; exact (HO6.out.bd j hj).2.2.1
      have q2 : w6.cell? ⟨g, j * 9 + 2, none⟩ = some (.int .i64 (u : Int)) := by rw [← HU.out]; exact HO6.out.at_ hj 2 (by omega)
      rw [HU.out] at HKK
      go_wp2_with fail
      clear c1 q2
      have HLE2 : Hid (leastN (fun m => ∃ M, LObj w6 p g n M ed ∧ ExR m M u j N1 r) ≤ m1) := (leastN_at (P := fun m => ∃ M, LObj w6 p g n M ed ∧ ExR m M u j N1 r) ⟨_, HO6.out, HKK.out⟩).2
      go_roundw
      case rel => exact ⟨_, m1, u, j, rfl, rfl, hun, hj, HO6.out, HKK.out, HM6.out⟩
      case measure =>
        have h1 := HLE2.out
        have h2 := HMM.out
        have h3 := HMS.out
        show leastN (fun m => ∃ M, LObj w6 p g n M ed ∧ ExR m M u j N1 r) < leastN _
        rw [h3, h2]; omega
set_option maxHeartbeats 4000000 in
set_option maxRecDepth 100000 in
theorem lc_lead (w : World) (p g n : Nat) (N : NS) (ed : Int) (h : LObj w p g n N ed) (i : Nat) (hi : i ≤ n) (N' : NS) (r : Nat) (hs : ExposeR N i N' r) :
    Calls Tryz.prog 133 #[.pointer (some ⟨p, 0, none⟩), .int .i64 (i : Int)] w (LPost w p g n (flN N' i) ed (.tuple #[])) := by
  have hn := h.nb
  have HO0 := Lib.hid h
  clear h
  go_enter Tryz.func133, Tryz.ntmps133
  go_wp2_with fail
  with_reducible refine (lc_expose w p g n _ ed HO0.out i hi N' r hs).mono ?_
  rintro e w2 ⟨rfl, ho2, hm2⟩
  have HO2 := Lib.hid ho2
  have HM2 := Lib.hid hm2
  clear ho2 hm2 HO0
  obtain ⟨cap1, c1⟩ := HO2.out.c1
  have q3 : w2.cell? ⟨g, i * 9 + 3, none⟩ = some (.bool (N' i).fl) := HO2.out.at_ hi 3 (by omega)
  have f3 : w2.frozen? ⟨g, i * 9 + 3, none⟩ = false := HO2.out.fr _
  have HO3 : Hid (LObj (w2.setCell ⟨g, i * 9 + 3, none⟩ (.bool true)) p g n (flN N' i) ed) :=
    HO2.out.set (j := 3) (v := { N' i with fl := true }) hi (by omega) (HO2.out.bd i hi) (fun r hr hne => match r, hr, hne with
      | 0, _, _ => rfl
      | 1, _, _ => rfl
      | 2, _, _ => rfl
      | 4, _, _ => rfl
      | 5, _, _ => rfl
      | 6, _, _ => rfl
      | 7, _, _ => rfl
      | 8, _, _ => rfl) rfl
  have HM3 : Hid (Mod (fun x => x = g) w (w2.setCell ⟨g, i * 9 + 3, none⟩ (.bool true))) := HM2.out.setCell ⟨g, i * 9 + 3, none⟩ (fun _ => rfl) _
  generalize (N' i).fl = y at q3
  have gi1 : (i : Int) < (n + 1 : Nat) := by omega
  have gi2 : (0 : Int) ≤ (i : Int) := by omega
  have gi3 : (i : Int) < (n : Int) + 1 := by omega
  have gi4 : i < n + 1 := by omega
  clear HO2 HM2
  go_wp2_with fail
  go_end0
  exact ⟨rfl, HO3.out, HM3.out⟩
set_option maxHeartbeats 4000000 in
set_option maxRecDepth 100000 in
theorem lc_path (w : World) (p g n : Nat) (N : NS) (ed : Int) (h : LObj w p g n N ed) (i j : Nat) (hi : i ≤ n) (hj : j ≤ n) (N1 N3 : NS) (r r3 : Nat) (hs : ExposeR N i N1 r) (hs3 : ExposeR (flN N1 i) j N3 r3) :
    Calls Tryz.prog 105 #[.pointer (some ⟨p, 0, none⟩), .int .i64 (i : Int), .int .i64 (j : Int)] w (LPost w p g n N3 ed (.tuple #[])) := by
  have HO0 := Lib.hid h
  clear h
  go_enter Tryz.func105, Tryz.ntmps105
  go_wp2_with fail
  with_reducible refine (lc_lead w p g n _ ed HO0.out i hi N1 r hs).mono ?_
  rintro e w2 ⟨rfl, ho2, hm2⟩
  have HO2 := Lib.hid ho2
  have HM2 := Lib.hid hm2
  clear ho2 hm2 HO0
  go_wp2_with fail
  with_reducible refine (lc_expose w2 p g n _ ed HO2.out j hj N3 r3 hs3).mono ?_
  rintro e w3 ⟨rfl, ho3, hm3⟩
  have HO3 := Lib.hid ho3
  have HM3 : Hid (Mod (fun x => x = g) w w3) := HM2.out.trans hm3 (fun _ _ e => e)
  clear ho3 hm3 HO2 HM2
  go_wp2_with fail
  go_end0
  exact ⟨rfl, HO3.out, HM3.out⟩
end Go.Proofs.YtlooaipipmiijaaGreat

namespace Go.Proofs.YtlooaipipmiijaaGreat
set_option linter.unusedVariables false
set_option linter.unusedSimpArgs false
open Go.RowKit
def LcO (w : World) (p g n : Nat) (E : Nat → Nat → Prop) (key : Nat → Int) : Prop := ∃ N ed, LObj w p g n N ed ∧ LG n E key N
theorem LcO.mod {F : Nat → Prop} {w w' : World} {p g n : Nat} {E : Nat → Nat → Prop} {key : Nat → Int} (h : LcO w p g n E key) (m : Mod F w w') (h1 : ¬ F p) (h2 : ¬ F g) : LcO w' p g n E key := by
  obtain ⟨N, ed, a, b⟩ := h; exact ⟨N, ed, a.mod m h1 h2, b⟩
theorem LcO.below {w w' : World} {p g n : Nat} {E : Nat → Nat → Prop} {key : Nat → Int} (h : LcO w p g n E key) (m : Below w.heap.size w w') : LcO w' p g n E key := by
  obtain ⟨N, ed, a, b⟩ := h; exact ⟨N, ed, a.below m, b⟩
theorem LcO.lt {w : World} {p g n : Nat} {E : Nat → Nat → Prop} {key : Nat → Int} (h : LcO w p g n E key) : p < w.heap.size ∧ g < w.heap.size ∧ p ≠ g := by
  obtain ⟨N, ed, a, b⟩ := h; exact ⟨a.plt, a.glt, a.ne⟩
theorem Tryz.eqlLct (w : World) (a : Addr) : (binOp .eql 109 (.pointer (some a)) (.pointer (some a))).run Tryz.prog w = .ok (.bool true) w := by
  obtain ⟨j, hj⟩ : ∃ j, Tryz.prog.info? 174 = some j := Option.isSome_iff_exists.1 (by kernel_rfl)
  exact run_eql_ptr_same w a Tryz.underlying109 hj
set_option maxHeartbeats 4000000 in
set_option maxRecDepth 100000 in
theorem lc_valid (w : World) (p g n : Nat) (N : NS) (ed : Int) (h : LObj w p g n N ed) :
    Calls Tryz.prog 110 #[.pointer (some ⟨p, 0, none⟩)] w (RetB (.bool true) w) := by
  have c0 := h.c0
  have hq := fun w => Tryz.eqlLct w ⟨p, 0, none⟩
  go_enter Tryz.func110, Tryz.ntmps110
  go_wp2_with fail
  go_ret
  exact ⟨rfl, Below.refl _ _⟩
set_option maxHeartbeats 4000000 in
set_option maxRecDepth 100000 in
theorem lc_has (w : World) (p g n : Nat) (N : NS) (ed : Int) (h : LObj w p g n N ed) (v : Nat) (hv : v < n) :
    Calls Tryz.prog 112 #[.pointer (some ⟨p, 0, none⟩), .int .i64 (v : Int)] w (RetB (.bool true) w) := by
  have hn := h.nb
  have HO := Lib.hid h
  clear h
  have t1 : decide ((0 : Int) ≤ (v : Int)) = true := decide_eq_true (by omega)
  have t2 : decide ((v : Int) < (n : Int)) = true := decide_eq_true (by omega)
  have t2' : decide (v < n) = true := decide_eq_true hv
  have hw : IntKind.i64.wrap (((n + 1 : Nat) : Int) - 1) = (n : Int) := by rw [IntWalk.i64_in _ (by omega)]; omega
  have hw2 : IntKind.i64.wrap ((n : Int) + 1 - 1) = (n : Int) := by rw [IntWalk.i64_in _ (by omega)]; omega
  go_enter Tryz.func112, Tryz.ntmps112
  go_wp2_with fail
  with_reducible refine (lc_valid w p g n N ed HO.out).mono ?_
  rintro e w2 ⟨rfl, hb⟩
  have HO2 := Lib.hid (HO.out.below hb)
  have HB := Lib.hid hb
  obtain ⟨cap1, c1⟩ := HO2.out.c1
  clear hb HO
  go_wp2_with fail
  go_ret
  exact ⟨rfl, HB.out⟩
set_option maxHeartbeats 4000000 in
set_option maxRecDepth 100000 in
theorem lc_check (w : World) (p g n : Nat) (N : NS) (ed : Int) (h : LObj w p g n N ed) (vb m : Nat) (vs : List Nat) (hm : vs.length = m) (hm2 : m ≤ 2) (hc : ∀ q, q < m → w.cell? ⟨vb, q, none⟩ = some (.int .i64 ((vs.getD q 0 : Nat) : Int)) ∧ vs.getD q 0 < n) :
    Calls Tryz.prog 120 #[.pointer (some ⟨p, 0, none⟩), .slice (some ⟨vb, 0, none⟩) m m] w (RetB (.int .i64 0) w) := by
  have HO := Lib.hid h
  have HC := Lib.hid hc
  clear h hc
  go_enter Tryz.func120, Tryz.ntmps120
  go_wp2_with fail
  with_reducible refine (lc_valid w p g n N ed HO.out).mono ?_
  rintro e w2 ⟨rfl, hb⟩
  have HB := Lib.hid hb
  clear hb
  go_wp2_with fail
  go_loopw [12] (fun s wr => ∃ k : Nat, k ≤ m ∧ s = .int .i64 (k : Int) ∧ Below w.heap.size w wr) (fun s _ => m - (intOf s).toNat)
  case atStart => exact ⟨0, Nat.zero_le _, rfl, HB.out⟩
  case round =>
    obtain ⟨k, hk, rfl, hbr⟩ := hrel
    have HBR := Lib.hid hbr
    have HOR := Lib.hid (HO.out.below hbr)
    clear HB
    by_cases hkm : k < m
    · obtain ⟨q1, q2⟩ := HC.out k hkm
      replace q1 := (hbr.cell (World.block_lt_of_cell? w _ q1)).trans q1
      generalize vs.getD k 0 = v at q1 q2
      have t1 : (k : Int) < (m : Int) := by omega
      have t2 : (0 : Int) ≤ (k : Int) := by omega
      clear hbr
      go_wp2_with fail
      with_reducible refine (lc_has wr p g n N ed HOR.out v q2).mono ?_
      rintro e w3 ⟨rfl, hb3⟩
      have HB3 := Lib.hid (bel_then HBR.out hb3)
      clear hb3 q1
      go_wp2_with fail
      go_roundw
      case rel => exact ⟨k + 1, by omega, by go_num, HB3.out⟩
      case measure => simp [intOf]; omega
    · obtain rfl : k = m := by omega
      clear hbr
      go_wp2_with fail
      go_ret
      exact ⟨rfl, HBR.out⟩
structure LcConn (w : World) (p g n : Nat) (E : Nat → Nat → Prop) (key : Nat → Int) (ed : Int) (a b : Nat) (e : Ending) (w' : World) : Prop where
  val : ∃ c : Bool, e = .returned (.bool c) ∧ (c = true ↔ Rch E (a + 1) (b + 1))
  obj : ∃ N', LObj w' p g n N' ed ∧ LG n E key N'
  mod : Mod (fun x => x = g) w w'
set_option maxHeartbeats 4000000 in
set_option maxRecDepth 100000 in
theorem lc_connected (w : World) (p g n : Nat) (E : Nat → Nat → Prop) (key : Nat → Int) (N : NS) (ed : Int) (h : LObj w p g n N ed) (hl : LG n E key N) (a b : Nat) (ha : a < n) (hb : b < n) :
    Calls Tryz.prog 73 #[.pointer (some ⟨p, 0, none⟩), .int .i64 (a : Int), .int .i64 (b : Int)] w (LcConn w p g n E key ed a b) := by
  have hn := h.nb
  have HO := Lib.hid h
  have HL := Lib.hid hl
  have hwa : IntKind.i64.wrap ((a : Int) + 1) = (a : Int) + 1 := IntWalk.i64_in _ (by omega)
  have hwb : IntKind.i64.wrap ((b : Int) + 1) = (b : Int) + 1 := IntWalk.i64_in _ (by omega)
  clear h hl
  go_enter Tryz.func73, Tryz.ntmps73
  go_wp2_with fail
  with_reducible refine (lc_has w p g n N ed HO.out a ha).mono ?_
  rintro e w1 ⟨rfl, hb1⟩
  have HO1 := Lib.hid (HO.out.below hb1)
  have HM1 : Hid (Mod (fun x => x = g) w w1) := Mod.of_below hb1
  clear hb1 HO
  go_wp2_with fail
  with_reducible refine (lc_has w1 p g n N ed HO1.out b hb).mono ?_
  rintro e w2 ⟨rfl, hb2⟩
  have HO2 := Lib.hid (HO1.out.below hb2)
  have HM2 : Hid (Mod (fun x => x = g) w w2) := HM1.out.trans (Mod.of_below (F := fun _ => False) hb2) (fun _ _ e => e.elim)
  clear hb2 HO1 HM1
  by_cases hab : a = b
  · subst hab
    go_wp2_with fail
    go_ret
    exact ⟨⟨true, rfl, fun _ => .refl, fun _ => rfl⟩, ⟨N, HO2.out, HL.out⟩, HM2.out⟩
  · have t1 : ((a : Int) == (b : Int)) = false := by simp; omega
    have t1' : decide (a = b) = false := decide_eq_false hab
    have t1'' : (a == b) = false := by simpa using hab
    obtain ⟨N1, r1, N2, r2, e1, e2, l1, l2, hup⟩ := HL.out.conn (a := a + 1) (b := b + 1) ⟨by omega, by omega⟩ ⟨by omega, by omega⟩ (by omega)
    have HUP := Lib.hid hup
    have HL2 := Lib.hid l2
    clear hab hup l1 l2
    go_wp2_with fail
    have hcon := lc_expose w2 p g n N ed HO2.out (a + 1) (by omega) N1 r1 e1
    rw [show ((a + 1 : Nat) : Int) = (a : Int) + 1 from rfl] at hcon
    with_reducible refine hcon.mono ?_
    rintro e w3 ⟨rfl, ho3, hm3⟩
    have HO3 := Lib.hid ho3
    have HM3 : Hid (Mod (fun x => x = g) w w3) := HM2.out.trans hm3 (fun _ _ e => e)
    clear ho3 hm3 HO2 HM2 e1
    go_wp2_with fail
    have hcon := lc_expose w3 p g n N1 ed HO3.out (b + 1) (by omega) N2 r2 e2
    rw [show ((b + 1 : Nat) : Int) = (b : Int) + 1 from rfl] at hcon
    with_reducible refine hcon.mono ?_
    rintro e w4 ⟨rfl, ho4, hm4⟩
    have HO4 := Lib.hid ho4
    have HM4 : Hid (Mod (fun x => x = g) w w4) := HM3.out.trans hm4 (fun _ _ e => e)
    clear ho4 hm4 HO3 HM3 e2
    obtain ⟨cap1, c1⟩ := HO4.out.c1
    have q2 : w4.cell? ⟨g, (a + 1) * 9 + 2, none⟩ = some (.int .i64 ((N2 (a + 1)).up : Int)) := HO4.out.at_ (by omega) 2 (by omega)
    obtain ⟨u, HU⟩ : ∃ u, Hid ((N2 (a + 1)).up = u) := ⟨_, rfl⟩
    rw [HU.out] at q2 HUP
    have ga1 : (a : Int) + 1 < (n + 1 : Nat) := by omega
    have ga2 : (0 : Int) ≤ (a : Int) + 1 := by omega
    have ga3 : (a : Int) + 1 < (n : Int) + 1 := by omega
    have ga4 : a + 1 < n + 1 := by omega
    go_wp2_with fail
    by_cases hu : u = 0
    · subst hu
      have HF : Hid (¬ Rch E (a + 1) (b + 1)) := fun h => HUP.out.2 h rfl
      go_wp2_with fail
      go_ret
      exact ⟨⟨false, by simp, fun h => (by cases h), fun h => absurd h HF.out⟩, ⟨N2, HO4.out, HL2.out⟩, HM4.out⟩
    · have HF : Hid (Rch E (a + 1) (b + 1)) := HUP.out.1 hu
      have t2 : ((u : Int) == 0) = false := by simpa using hu
      have t2' : (u == 0) = false := by simpa using hu
      have t2'' : decide (u = 0) = false := decide_eq_false hu
      go_wp2_with fail
      go_ret
      exact ⟨⟨true, by simp [hu], fun _ => HF.out, fun _ => rfl⟩, ⟨N2, HO4.out, HL2.out⟩, HM4.out⟩
end Go.Proofs.YtlooaipipmiijaaGreat

namespace Go.Proofs.YtlooaipipmiijaaGreat
set_option linter.unusedVariables false
set_option linter.unusedSimpArgs false
open Go.RowKit
theorem LObj.setEd {w : World} {p g n : Nat} {N : NS} {ed : Int} (h : LObj w p g n N ed) (x : Int) : LObj (w.setCell ⟨p, 2, none⟩ (.int .i64 x)) p g n N x :=
  ⟨h.mem.imp fun _ h' => h'.imp fun _ hb => ⟨hb.1.set 2 _, hb.2.1.other ⟨p, 2, none⟩ _ (fun e => h.ne e.symm), hb.2.2⟩, h.ne, h.bd, h.nb⟩
structure LcInt (w : World) (p g n : Nat) (E : Nat → Nat → Prop) (key : Nat → Int) (ed : Int) (v : Value) (e : Ending) (w' : World) : Prop where
  val : e = .returned v
  obj : ∃ N', LObj w' p g n N' ed ∧ LG n E key N'
  mod : Mod (fun x => x = g) w w'
set_option maxHeartbeats 4000000 in
set_option maxRecDepth 100000 in
theorem lc_size (w : World) (p g n : Nat) (E : Nat → Nat → Prop) (key : Nat → Int) (N : NS) (ed : Int) (h : LObj w p g n N ed) (hl : LG n E key N) (a : Nat) (ha : a < n) :
    Calls Tryz.prog 118 #[.pointer (some ⟨p, 0, none⟩), .int .i64 (a : Int)] w (LcInt w p g n E key ed (.int .i64 ((cntP (fun x => VV n x ∧ Rch E (a + 1) x) (n + 1) : Nat) : Int))) := by
  have hn := h.nb
  have HO := Lib.hid h
  have HM : Hid (Mod (fun x => x = g) w w) := Mod.refl _ _
  have hwa : IntKind.i64.wrap ((a : Int) + 1) = (a : Int) + 1 := IntWalk.i64_in _ (by omega)
  obtain ⟨N1, r1, e1, l1, hsz⟩ := hl.size (a := a + 1) ⟨by omega, by omega⟩
  have HL1 := Lib.hid l1
  have HSZ := Lib.hid hsz
  clear h hl l1 hsz
  go_enter Tryz.func118, Tryz.ntmps118
  go_wp2_with fail
  with_reducible refine (lc_has w p g n N ed HO.out a ha).mono ?_
  rintro e w1 ⟨rfl, hb1⟩
  have HO1 := Lib.hid (HO.out.below hb1)
  have HM1 : Hid (Mod (fun x => x = g) w w1) := Mod.of_below hb1
  clear hb1 HO HM
  go_wp2_with fail
  have hcon := lc_expose w1 p g n N ed HO1.out (a + 1) (by omega) N1 r1 e1
  rw [show ((a + 1 : Nat) : Int) = (a : Int) + 1 from rfl] at hcon
  with_reducible refine hcon.mono ?_
  rintro e w2 ⟨rfl, ho, hm⟩
  have HO2 := Lib.hid ho
  have HM2 : Hid (Mod (fun x => x = g) w w2) := HM1.out.trans hm (fun _ _ e => e)
  clear ho hm hcon HO1 HM1
  obtain ⟨cap1, c1⟩ := HO2.out.c1
  have q8 : w2.cell? ⟨g, (a + 1) * 9 + 8, none⟩ = some (.int .i64 (N1 (a + 1)).tot) := HO2.out.at_ (by omega) 8 (by omega)
  rw [HSZ.out] at q8
  have ga1 : (a : Int) + 1 < (n + 1 : Nat) := by omega
  have ga2 : (0 : Int) ≤ (a : Int) + 1 := by omega
  have ga3 : (a : Int) + 1 < (n : Int) + 1 := by omega
  have ga4 : a + 1 < n + 1 := by omega
  go_wp2_with fail
  go_ret
  exact ⟨rfl, ⟨N1, HO2.out, HL1.out⟩, HM2.out⟩
structure LcMin (w : World) (p g n : Nat) (E : Nat → Nat → Prop) (key : Nat → Int) (ed : Int) (a b : Nat) (e : Ending) (w' : World) : Prop where
  yes : Rch E (a + 1) (b + 1) → ∃ m, Way n E key (a + 1) (b + 1) (m + 1) ∧ e = .returned (.tuple #[.int .i64 (m : Int), .bool true])
  no : ¬ Rch E (a + 1) (b + 1) → e = .returned (.tuple #[.int .i64 0, .bool false])
  obj : ∃ N', LObj w' p g n N' ed ∧ LG n E key N'
  mod : Mod (fun x => x = g) w w'
set_option maxHeartbeats 4000000 in
set_option maxRecDepth 100000 in
theorem lc_min (w : World) (p g n : Nat) (E : Nat → Nat → Prop) (key : Nat → Int) (N : NS) (ed : Int) (h : LObj w p g n N ed) (hl : LG n E key N) (a b : Nat) (ha : a < n) (hb : b < n) :
    Calls Tryz.prog 64 #[.pointer (some ⟨p, 0, none⟩), .int .i64 (a : Int), .int .i64 (b : Int)] w (LcMin w p g n E key ed a b) := by
  have hn := h.nb
  have HO := Lib.hid h
  have HL := Lib.hid hl
  have hwa : IntKind.i64.wrap ((a : Int) + 1) = (a : Int) + 1 := IntWalk.i64_in _ (by omega)
  have hwb : IntKind.i64.wrap ((b : Int) + 1) = (b : Int) + 1 := IntWalk.i64_in _ (by omega)
  clear h hl
  go_enter Tryz.func64, Tryz.ntmps64
  go_wp2_with fail
  with_reducible refine (lc_connected w p g n E key N ed HO.out HL.out a b ha hb).mono ?_
  rintro e w1 ⟨⟨c, rfl, hc⟩, ⟨N1, ho1, hl1⟩, hm1⟩
  have HO1 := Lib.hid ho1
  have HL1 := Lib.hid hl1
  have HM1 := Lib.hid hm1
  have HC := Lib.hid hc
  clear ho1 hl1 hm1 hc HO HL
  cases c with
  | false =>
    go_wp2_with fail
    go_ret2
    exact ⟨fun h => absurd (HC.out.2 h) (by simp), fun _ => rfl, ⟨N1, HO1.out, HL1.out⟩, HM1.out⟩
  | true =>
    have hr := HC.out.1 rfl
    obtain ⟨N2, r2, N3, r3, e2, e3, _, _, l3, way, _⟩ := HL1.out.path (a := a + 1) (b := b + 1) ⟨by omega, by omega⟩ ⟨by omega, by omega⟩ hr
    have HL3 := Lib.hid l3
    have HWY := Lib.hid way
    have HRR := Lib.hid hr
    clear l3 way hr
    go_wp2_with fail
    have hcon := lc_path w1 p g n N1 ed HO1.out (a + 1) (b + 1) (by omega) (by omega) N2 N3 r2 r3 e2 e3
    rw [show ((a + 1 : Nat) : Int) = (a : Int) + 1 from rfl, show ((b + 1 : Nat) : Int) = (b : Int) + 1 from rfl] at hcon
    with_reducible refine hcon.mono ?_
    rintro e w2 ⟨rfl, ho, hm⟩
    have HO2 := Lib.hid ho
    have HM2 : Hid (Mod (fun x => x = g) w w2) := HM1.out.trans hm (fun _ _ e => e)
    clear ho hm hcon HO1 HM1
    obtain ⟨cap1, c1⟩ := HO2.out.c1
    obtain ⟨m, HMM⟩ : ∃ m, Hid ((N3 (b + 1)).fst = m + 1) := ⟨(N3 (b + 1)).fst - 1, by have := HWY.out.vm.1; show _ = _; omega⟩
    have hmn : m + 1 ≤ n := by rw [← HMM.out]; exact (HO2.out.bd (b + 1) (by omega)).2.2.2
    have q6 : w2.cell? ⟨g, (b + 1) * 9 + 6, none⟩ = some (.int .i64 ((m : Int) + 1)) := by
      have := HO2.out.at_ (i := b + 1) (by omega) 6 (by omega)
      rw [this]
      show some (Value.int .i64 (((N3 (b + 1)).fst : Nat) : Int)) = _
      rw [HMM.out]; rfl
    have hwm : IntKind.i64.wrap ((m : Int) + 1 - 1) = (m : Int) := by rw [IntWalk.i64_in _ (by omega)]; omega
    have hwm2 : IntKind.i64.wrap (m : Int) = (m : Int) := IntWalk.i64_in _ (by omega)
    have gb1 : (b : Int) + 1 < (n + 1 : Nat) := by omega
    have gb2 : (0 : Int) ≤ (b : Int) + 1 := by omega
    have gb3 : (b : Int) + 1 < (n : Int) + 1 := by omega
    have gb4 : b + 1 < n + 1 := by omega
    rw [HMM.out] at HWY
    go_wp2_with fail
    go_ret2
    exact ⟨fun _ => ⟨m, HWY.out, rfl⟩, fun h => absurd HRR.out h, ⟨N3, HO2.out, HL3.out⟩, HM2.out⟩
set_option maxHeartbeats 4000000 in
set_option maxRecDepth 100000 in
theorem lc_dist (w : World) (p g n : Nat) (E : Nat → Nat → Prop) (key : Nat → Int) (N : NS) (ed : Int) (h : LObj w p g n N ed) (hl : LG n E key N) (a b : Nat) (ha : a < n) (hb : b < n) (hE : E (a + 1) (b + 1)) :
    Calls Tryz.prog 130 #[.pointer (some ⟨p, 0, none⟩), .int .i64 (a : Int), .int .i64 (b : Int)] w (LcInt w p g n E key ed (.int .i64 1)) := by
  have hn := h.nb
  have HO := Lib.hid h
  have HL := Lib.hid hl
  have hwa : IntKind.i64.wrap ((a : Int) + 1) = (a : Int) + 1 := IntWalk.i64_in _ (by omega)
  have hwb : IntKind.i64.wrap ((b : Int) + 1) = (b : Int) + 1 := IntWalk.i64_in _ (by omega)
  clear h hl
  go_enter Tryz.func130, Tryz.ntmps130
  go_wp2_with fail
  with_reducible refine (lc_connected w p g n E key N ed HO.out HL.out a b ha hb).mono ?_
  rintro e w1 ⟨⟨c, rfl, hc⟩, ⟨N1, ho1, hl1⟩, hm1⟩
  obtain rfl : c = true := hc.2 (.step .refl hE)
  have HO1 := Lib.hid ho1
  have HL1 := Lib.hid hl1
  have HM1 := Lib.hid hm1
  clear ho1 hl1 hm1 hc HO HL
  obtain ⟨N2, r2, N3, r3, e2, e3, _, _, l3, way, hs2⟩ := HL1.out.path (a := a + 1) (b := b + 1) ⟨by omega, by omega⟩ ⟨by omega, by omega⟩ (.step .refl hE)
  have HL3 := Lib.hid l3
  have HS2 := Lib.hid (hs2 hE)
  clear l3 way hs2
  go_wp2_with fail
  have hcon := lc_path w1 p g n N1 ed HO1.out (a + 1) (b + 1) (by omega) (by omega) N2 N3 r2 r3 e2 e3
  rw [show ((a + 1 : Nat) : Int) = (a : Int) + 1 from rfl, show ((b + 1 : Nat) : Int) = (b : Int) + 1 from rfl] at hcon
  with_reducible refine hcon.mono ?_
  rintro e w2 ⟨rfl, ho, hm⟩
  have HO2 := Lib.hid ho
  have HM2 : Hid (Mod (fun x => x = g) w w2) := HM1.out.trans hm (fun _ _ e => e)
  clear ho hm hcon HO1 HM1
  obtain ⟨cap1, c1⟩ := HO2.out.c1
  have q5 : w2.cell? ⟨g, (b + 1) * 9 + 5, none⟩ = some (.int .i64 2) := by
    have := HO2.out.at_ (i := b + 1) (by omega) 5 (by omega)
    rw [this]
    show some (Value.int .i64 (N3 (b + 1)).sz) = _
    rw [HS2.out]
  have gb1 : (b : Int) + 1 < (n + 1 : Nat) := by omega
  have gb2 : (0 : Int) ≤ (b : Int) + 1 := by omega
  have gb3 : (b : Int) + 1 < (n : Int) + 1 := by omega
  have gb4 : b + 1 < n + 1 := by omega
  go_wp2_with fail
  go_ret
  exact ⟨rfl, ⟨N3, HO2.out, HL3.out⟩, HM2.out⟩
set_option maxHeartbeats 4000000 in
set_option maxRecDepth 100000 in
theorem lc_set (w : World) (p g n : Nat) (E : Nat → Nat → Prop) (key : Nat → Int) (N : NS) (ed : Int) (h : LObj w p g n N ed) (hl : LG n E key N) (a : Nat) (ha : a < n) (kk : Int) :
    Calls Tryz.prog 83 #[.pointer (some ⟨p, 0, none⟩), .int .i64 (a : Int), .int .i64 kk] w (LcInt w p g n E (fun x => if x = a + 1 then kk else key x) ed (.int .i64 0)) := by
  have hn := h.nb
  have HO := Lib.hid h
  have hwa : IntKind.i64.wrap ((a : Int) + 1) = (a : Int) + 1 := IntWalk.i64_in _ (by omega)
  obtain ⟨N1, r1, e1, l1, p0, p1, l2⟩ := hl.setKey (v := a + 1) ⟨by omega, by omega⟩ kk
  have HP0 := Lib.hid p0
  have HP1 := Lib.hid p1
  have HL2 := Lib.hid l2
  have hba : Below w.heap.size w (w.alloc (.cells #[.int .i64 (a : Int)] 3)) := bel_alloc w _
  have HBA := Lib.hid hba
  have HOA := Lib.hid (h.below hba)
  have qv := (Blk.new w 3 [.int .i64 (a : Int)]).cell (i := 0) rfl
  clear h hl l1 p0 p1 l2 hba HO
  go_enter Tryz.func83, Tryz.ntmps83
  go_wp2_with fail
  have hcon := lc_check _ p g n N ed HOA.out w.heap.size 1 [a] rfl (by omega) (fun q hq => by
    obtain rfl : q = 0 := by omega
    exact ⟨qv, ha⟩)
  with_reducible refine hcon.mono ?_
  rintro e w1 ⟨rfl, hb1⟩
  have HO1 := Lib.hid (HOA.out.below hb1)
  have HM1 : Hid (Mod (fun x => x = g) w w1) := Mod.of_below (bel_then HBA.out hb1)
  clear hb1 hcon qv HOA HBA
  go_wp2_with fail
  have hcon := lc_expose w1 p g n N ed HO1.out (a + 1) (by omega) N1 r1 e1
  rw [show ((a + 1 : Nat) : Int) = (a : Int) + 1 from rfl] at hcon
  with_reducible refine hcon.mono ?_
  rintro e w2 ⟨rfl, ho, hm⟩
  have HO2 := Lib.hid ho
  have HM2 : Hid (Mod (fun x => x = g) w w2) := HM1.out.trans hm (fun _ _ e => e)
  clear ho hm hcon HO1 HM1
  obtain ⟨cap1, c1⟩ := HO2.out.c1
  have q4 : w2.cell? ⟨g, (a + 1) * 9 + 4, none⟩ = some (.int .i64 (N1 (a + 1)).key) := HO2.out.at_ (by omega) 4 (by omega)
  have f4 : w2.frozen? ⟨g, (a + 1) * 9 + 4, none⟩ = false := HO2.out.fr _
  have HO3 : Hid (LObj (w2.setCell ⟨g, (a + 1) * 9 + 4, none⟩ (.int .i64 kk)) p g n (updN N1 (a + 1) { N1 (a + 1) with key := kk }) ed) :=
    HO2.out.set (j := 4) (v := { N1 (a + 1) with key := kk }) (by omega) (by omega) (HO2.out.bd (a + 1) (by omega)) (fun r hr hne => match r, hr, hne with
      | 0, _, _ => rfl
      | 1, _, _ => rfl
      | 2, _, _ => rfl
      | 3, _, _ => rfl
      | 5, _, _ => rfl
      | 6, _, _ => rfl
      | 7, _, _ => rfl
      | 8, _, _ => rfl) rfl
  have HM3 : Hid (Mod (fun x => x = g) w (w2.setCell ⟨g, (a + 1) * 9 + 4, none⟩ (.int .i64 kk))) := HM2.out.setCell ⟨g, (a + 1) * 9 + 4, none⟩ (fun _ => rfl) _
  generalize (N1 (a + 1)).key = y4 at q4
  have ga1 : (a : Int) + 1 < (n + 1 : Nat) := by omega
  have ga2 : (0 : Int) ≤ (a : Int) + 1 := by omega
  have ga3 : (a : Int) + 1 < (n : Int) + 1 := by omega
  have ga4 : a + 1 < n + 1 := by omega
  go_upto_region 6 with fail
  clear c1 q4 f4 HO2 HM2
  generalize w2.setCell ⟨g, (a + 1) * 9 + 4, none⟩ (.int .i64 kk) = w3 at *
  go_wp2_with fail
  have hcon := lc_refresh w3 p g n _ ed HO3.out (a + 1) (by omega) (by rw [uN_same]; exact HP0.out) (by rw [uN_same]; exact HP1.out)
  rw [show ((a + 1 : Nat) : Int) = (a : Int) + 1 from rfl] at hcon
  with_reducible refine hcon.mono ?_
  rintro e w4 ⟨rfl, ho4, hm4⟩
  have HO4 := Lib.hid ho4
  have HM4 : Hid (Mod (fun x => x = g) w w4) := HM3.out.trans hm4 (fun _ _ e => e)
  clear ho4 hm4 hcon HO3 HM3
  go_wp2_with fail
  go_ret
  exact ⟨rfl, ⟨_, HO4.out, HL2.out⟩, HM4.out⟩
end Go.Proofs.YtlooaipipmiijaaGreat
