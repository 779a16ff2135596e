/- The statements' proper and below. -/
import Derived.Test.YthhddjknjnjbhaaDoorLkCm
import Derived.Test.YthhddjknjnjbhaaDoorLkSt
namespace Go.Proofs.YthhddjknjnjbhaaDoor
set_option linter.unusedVariables false
set_option linter.unusedSimpArgs false
open Go.RowKit

theorem tm_pos {x c : Int} (h : 0 ≤ x) : Int.tmod x c = x % c := Int.tmod_eq_emod_of_nonneg h
theorem td_pos {x c : Int} (h : 0 ≤ x) : Int.tdiv x c = x / c := Int.tdiv_eq_ediv_of_nonneg h

set_option maxHeartbeats 2000000 in
theorem proper_ok (N D : Int) (w : World) (h1 : 1 ≤ D) (h2 : D ≤ 4096) (h3 : 0 ≤ N) (h4 : N ≤ 1099511627776 * D) (hg : Nat.gcd N.toNat D.toNat = 1) :
    Calls Tryd.prog 11 #[.agg #[.int .i64 N, .int .i64 D]] w (RetB (.bool true) w) := by
  have HG := Lib.hid hg
  have h5 : N / D ≤ 1099511627776 := by
    have := Int.ediv_le_ediv (show 0 < D by omega) h4
    rwa [Int.mul_ediv_cancel _ (by omega)] at this
  have h6 : 0 ≤ N / D := Int.ediv_nonneg h3 (by omega)
  have h7 : N.tdiv D = N / D := td_pos h3
  have h8 : N ≤ 9007199254740992 := by omega
  clear hg h4
  go_enter Tryd.func11, Tryd.ntmps11
  go_wp2_with fail
  generalize hW : World.alloc w _ = W
  have HB : Hid (Below w.heap.size w W) := by show Below _ _ _; rw [← hW]; exact (Below.refl _ _).alloc (Nat.le_refl _) _
  have c0 : W.cell? ⟨w.heap.size, 0, none⟩ = some (.int .i64 N) := by rw [← hW]; exact (Blk.new w 33 [.int .i64 N, .int .i64 D]).cell rfl
  have c1 : W.cell? ⟨w.heap.size, 1, none⟩ = some (.int .i64 D) := by rw [← hW]; exact (Blk.new w 33 [.int .i64 N, .int .i64 D]).cell rfl
  clear hW
  obtain ⟨x0, rfl⟩ := Int.eq_ofNat_of_zero_le h3
  obtain ⟨y0, rfl⟩ := Int.eq_ofNat_of_zero_le (show 0 ≤ D by omega)
  rw [Int.toNat_natCast, Int.toNat_natCast] at HG
  go_quiet (fail)
  clear c0 c1
  have hb0 : Below w.heap.size w (W.drewN nq) := bel_drewN HB.out _
  generalize W.drewN nq = W1 at *
  have HB1 := Lib.hid hb0
  clear hb0 HB
  go_wp2_with fail
  go_loopw [3, 4] (fun s t wr => ∃ x y : Nat, s = .int .i64 x ∧ t = .int .i64 y ∧ Nat.gcd x y = 1 ∧ x ≤ 9007199254740992 ∧ y ≤ 9007199254740992 ∧ Below w.heap.size w wr) (fun _ t _ => (intOf t).toNat)
  case atStart => exact ⟨x0, y0, rfl, rfl, HG.out, by omega, by omega, HB1.out⟩
  case round =>
    obtain ⟨x, y, rfl, rfl, hgc, hx, hy, hb⟩ := hrel
    have HGC := Lib.hid hgc
    have HBr := Lib.hid hb
    clear hgc hb HB1 HG
    by_cases hy0 : y = 0
    · subst hy0
      have hx1 : x = 1 := by have := HGC.out; rw [Nat.gcd_zero_right] at this; exact this
      subst hx1
      go_wp2_with fail
      go_ret
      exact ⟨rfl, HBr.out⟩
    · have hyp : 0 < y := by omega
      have t1 : ((y : Int) != 0) = true := by simp; omega
      have t2 : ¬ (y : Int) = 0 := by omega
      have t3 : ((y : Int) == 0) = false := by simp; omega
      have r1 : Int.tmod (x : Int) (y : Int) = ((x % y : Nat) : Int) := by rw [tm_pos (by omega)]; simp
      have hlt : x % y < y := Nat.mod_lt _ hyp
      have hgn : Nat.gcd y (x % y) = 1 := by
        have := HGC.out
        rw [Nat.gcd_comm, Nat.gcd_rec] at this
        rw [Nat.gcd_comm]; exact this
      have HGN := Lib.hid hgn
      clear hgn
      generalize x % y = r at *
      go_wp2_with fail
      go_quiet (fail)
      go_wp2_with fail
      go_roundw
      case rel => exact ⟨y, r, rfl, rfl, HGN.out, by omega, by omega, bel_drewN HBr.out _⟩
      case measure => simp [intOf]; omega

theorem below_val {N D N' D' : Int} (h1 : 1 ≤ D) (k1 : 1 ≤ D') (h : N / D ≠ N' / D') : lessB (N, D) (N', D') = decide (N / D < N' / D') := by
  have a1 := Int.mul_ediv_add_emod N D
  have a2 := Int.emod_nonneg N (show D ≠ 0 by omega)
  have a3 := Int.emod_lt_of_pos N (show 0 < D by omega)
  have b1 := Int.mul_ediv_add_emod N' D'
  have b2 := Int.emod_nonneg N' (show D' ≠ 0 by omega)
  have b3 := Int.emod_lt_of_pos N' (show 0 < D' by omega)
  unfold lessB
  simp only
  generalize N / D = p at *
  generalize N' / D' = q at *
  generalize N % D = r at *
  generalize N' % D' = s at *
  subst a1
  subst b1
  have e1 : (D * p + r) * D' = D * D' * p + r * D' := by rw [Int.add_mul, Int.mul_right_comm]
  have e2 : (D' * q + s) * D = D * D' * q + s * D := by rw [Int.add_mul, Int.mul_right_comm, Int.mul_comm D' D]
  rw [e1, e2]
  have r1 : r * D' < D * D' := Int.mul_lt_mul_of_pos_right a3 (by omega)
  have r2 : 0 ≤ r * D' := Int.mul_nonneg a2 (by omega)
  have s1 : s * D < D * D' := by rw [Int.mul_comm D D']; exact Int.mul_lt_mul_of_pos_right b3 (by omega)
  have s2 : 0 ≤ s * D := Int.mul_nonneg b2 (by omega)
  have hE : 0 < D * D' := Int.mul_pos (by omega) (by omega)
  generalize D * D' = E at *
  generalize r * D' = r' at *
  generalize s * D = s' at *
  by_cases hpq : p < q
  · rw [decide_eq_true hpq, decide_eq_true]
    have : E * (p + 1) ≤ E * q := Int.mul_le_mul_of_nonneg_left (by omega) (by omega)
    rw [Int.mul_add] at this
    omega
  · rw [decide_eq_false hpq, decide_eq_false]
    have : E * (q + 1) ≤ E * p := Int.mul_le_mul_of_nonneg_left (by omega) (by omega)
    rw [Int.mul_add] at this
    omega

theorem below_val' {N D N' D' : Int} (h1 : 1 ≤ D) (k1 : 1 ≤ D') (h : N / D = N' / D') : lessB (N, D) (N', D') = decide (N % D * D' < N' % D' * D) := by
  have a1 := Int.mul_ediv_add_emod N D
  have b1 := Int.mul_ediv_add_emod N' D'
  unfold lessB
  simp only
  rw [h] at a1
  generalize N' / D' = q at *
  generalize N % D = r at *
  generalize N' % D' = s at *
  subst a1
  subst b1
  have e1 : (D * q + r) * D' = D * D' * q + r * D' := by rw [Int.add_mul, Int.mul_right_comm]
  have e2 : (D' * q + s) * D = D * D' * q + s * D := by rw [Int.add_mul, Int.mul_right_comm, Int.mul_comm D' D]
  rw [e1, e2]
  congr 1
  rw [eq_iff_iff]
  constructor <;> intro hh <;> omega

set_option maxHeartbeats 2000000 in
theorem below_ok (N D N' D' : Int) (w : World) (h1 : 1 ≤ D) (h2 : D ≤ 4096) (h3 : 0 ≤ N) (h4 : N ≤ 9007199254740992) (k1 : 1 ≤ D') (k2 : D' ≤ 4096) (k3 : 0 ≤ N') (k4 : N' ≤ 9007199254740992) :
    Calls Tryd.prog 12 #[.agg #[.int .i64 N, .int .i64 D], .agg #[.int .i64 N', .int .i64 D']] w (RetB (.bool (lessB (N, D) (N', D'))) w) := by
  have t1 : ¬ D = 0 := by omega
  have t2 : (D == 0) = false := by simp; omega
  have t3 : ¬ D' = 0 := by omega
  have t4 : (D' == 0) = false := by simp; omega
  have d1 : N.tdiv D = N / D := td_pos h3
  have d2 : N'.tdiv D' = N' / D' := td_pos k3
  have m1 : N.tmod D = N % D := tm_pos h3
  have m2 : N'.tmod D' = N' % D' := tm_pos k3
  have q1 : 0 ≤ N / D := Int.ediv_nonneg h3 (by omega)
  have q2 : N / D ≤ 9007199254740992 := Int.le_trans (Int.ediv_le_self _ h3) h4
  have q3 : 0 ≤ N' / D' := Int.ediv_nonneg k3 (by omega)
  have q4 : N' / D' ≤ 9007199254740992 := Int.le_trans (Int.ediv_le_self _ k3) k4
  have q5 := Int.emod_nonneg N t1
  have q6 := Int.emod_lt_of_pos N (show 0 < D by omega)
  have q7 := Int.emod_nonneg N' t3
  have q8 := Int.emod_lt_of_pos N' (show 0 < D' by omega)
  have HV := Lib.hid (@below_val N D N' D' h1 k1)
  have HV' := Lib.hid (@below_val' N D N' D' h1 k1)
  obtain ⟨res, HR⟩ : ∃ res, Hid (lessB (N, D) (N', D') = res) := ⟨_, rfl⟩
  rw [HR.out]
  simp only [HR.out] at HV HV'
  generalize N / D = p at *
  generalize N' / D' = q at *
  generalize N % D = r at *
  generalize N' % D' = s at *
  have b1 : 0 ≤ r * D' := Int.mul_nonneg q5 (by omega)
  have b2 : r * D' ≤ 4096 * 4096 := Int.mul_le_mul (by omega) k2 (by omega) (by decide)
  have b3 : 0 ≤ s * D := Int.mul_nonneg q7 (by omega)
  have b4 : s * D ≤ 4096 * 4096 := Int.mul_le_mul (by omega) h2 (by omega) (by decide)
  obtain ⟨u, hu⟩ : ∃ u, r * D' = u := ⟨_, rfl⟩
  obtain ⟨v, hv⟩ : ∃ v, s * D = v := ⟨_, rfl⟩
  rw [hu] at b1 b2 HV'
  rw [hv] at b3 b4 HV'
  have u1 : IntKind.i64.wrap u = u := IntWalk.i64_in _ (by omega)
  have v1 : IntKind.i64.wrap v = v := IntWalk.i64_in _ (by omega)
  have p1 : IntKind.i64.wrap p = p := IntWalk.i64_in _ (by omega)
  have p2 : IntKind.i64.wrap q = q := IntWalk.i64_in _ (by omega)
  have p3 : IntKind.i64.wrap r = r := IntWalk.i64_in _ (by omega)
  have p4 : IntKind.i64.wrap s = s := IntWalk.i64_in _ (by omega)
  by_cases hpq : p = q
  · have hres := HV'.out hpq
    have HRes := Lib.hid hres
    subst hpq
    clear hres HV HV' HR
    go_enter Tryd.func12, Tryd.ntmps12
    go_wp2_with fail
    generalize hW : World.alloc (World.alloc w _) _ = W
    have HB : Hid (Below w.heap.size w W) := by show Below _ _ _; rw [← hW]; exact ((Below.refl _ _).alloc (Nat.le_refl _) _).alloc (by simp) _
    have c0 : W.cell? ⟨w.heap.size, 0, none⟩ = some (.int .i64 N) := by rw [← hW]; exact ((Blk.new w 33 [.int .i64 N, .int .i64 D]).alloc _).cell rfl
    have c1 : W.cell? ⟨w.heap.size, 1, none⟩ = some (.int .i64 D) := by rw [← hW]; exact ((Blk.new w 33 [.int .i64 N, .int .i64 D]).alloc _).cell rfl
    have c2 : W.cell? ⟨w.heap.size + 1, 0, none⟩ = some (.int .i64 N') := by rw [← hW]; exact (Blk.new' _ 33 [.int .i64 N', .int .i64 D'] (by simp)).cell rfl
    have c3 : W.cell? ⟨w.heap.size + 1, 1, none⟩ = some (.int .i64 D') := by rw [← hW]; exact (Blk.new' _ 33 [.int .i64 N', .int .i64 D'] (by simp)).cell rfl
    clear hW
    go_quiet (fail)
    go_wp2_with fail
    go_quiet (fail)
    go_wp2_with fail
    go_ret
    exact ⟨ret_bool HRes.out.symm, bel_drewN (bel_drewN HB.out _) _⟩
  · have hres := HV.out hpq
    have HRes := Lib.hid hres
    have t5 : (p != q) = true := by simp [hpq]
    clear hres HV HV' HR
    go_enter Tryd.func12, Tryd.ntmps12
    go_wp2_with fail
    generalize hW : World.alloc (World.alloc w _) _ = W
    have HB : Hid (Below w.heap.size w W) := by show Below _ _ _; rw [← hW]; exact ((Below.refl _ _).alloc (Nat.le_refl _) _).alloc (by simp) _
    have c0 : W.cell? ⟨w.heap.size, 0, none⟩ = some (.int .i64 N) := by rw [← hW]; exact ((Blk.new w 33 [.int .i64 N, .int .i64 D]).alloc _).cell rfl
    have c1 : W.cell? ⟨w.heap.size, 1, none⟩ = some (.int .i64 D) := by rw [← hW]; exact ((Blk.new w 33 [.int .i64 N, .int .i64 D]).alloc _).cell rfl
    have c2 : W.cell? ⟨w.heap.size + 1, 0, none⟩ = some (.int .i64 N') := by rw [← hW]; exact (Blk.new' _ 33 [.int .i64 N', .int .i64 D'] (by simp)).cell rfl
    have c3 : W.cell? ⟨w.heap.size + 1, 1, none⟩ = some (.int .i64 D') := by rw [← hW]; exact (Blk.new' _ 33 [.int .i64 N', .int .i64 D'] (by simp)).cell rfl
    clear hW
    go_quiet (fail)
    go_wp2_with fail
    go_ret
    exact ⟨ret_bool HRes.out.symm, bel_drewN HB.out _⟩

end Go.Proofs.YthhddjknjnjbhaaDoor
