/- The reference of layer 23: lowest, distance, method. -/
import Derived.Test.YthhddjknjnjbhaaLkW
import Derived.Test.YthhddjknjnjbhaaLkR
namespace Go.Proofs.Ythhddjknjnjbhaa
set_option linter.unusedVariables false
set_option linter.unusedSimpArgs false
open Go.RowKit

theorem low_div {n d p : Nat} (hp : 0 < p) (hn : p ∣ n) (hd : p ∣ d) : n / p / Nat.gcd (n / p) (d / p) = n / Nat.gcd n d ∧ d / p / Nat.gcd (n / p) (d / p) = d / Nat.gcd n d := by
  obtain ⟨a, rfl⟩ := hn
  obtain ⟨b, rfl⟩ := hd
  rw [Nat.mul_div_cancel_left a hp, Nat.mul_div_cancel_left b hp, Nat.gcd_mul_left]
  exact ⟨(Nat.mul_div_mul_left a _ hp).symm, (Nat.mul_div_mul_left b _ hp).symm⟩

def noDiv (n d p : Nat) : Prop := ∀ c, 2 ≤ c → c < p → ¬ (c ∣ n ∧ c ∣ d)

theorem noDiv_end {n d p : Nat} (hd : 0 < d) (h : noDiv n d p) (hp : d < p) : Nat.gcd n d = 1 := by
  apply Classical.byContradiction
  intro hne
  have hpos : 0 < Nat.gcd n d := Nat.gcd_pos_of_pos_right n hd
  have hle : Nat.gcd n d ≤ d := Nat.gcd_le_right n hd
  exact h (Nat.gcd n d) (by omega) (by omega) ⟨Nat.gcd_dvd_left n d, Nat.gcd_dvd_right n d⟩

theorem noDiv_div {n d p q : Nat} (h : noDiv n d q) (hn : p ∣ n) (hd : p ∣ d) : noDiv (n / p) (d / p) q := fun c h1 h2 ⟨h3, h4⟩ =>
  h c h1 h2 ⟨Nat.dvd_trans h3 (Nat.div_dvd_of_dvd hn), Nat.dvd_trans h4 (Nat.div_dvd_of_dvd hd)⟩

theorem noDiv_next {n d p : Nat} (h : noDiv n d p) (hp : ¬ (p ∣ n ∧ p ∣ d)) : noDiv n d (p + 1) := fun c h1 h2 hh => by
  by_cases e : c = p
  · subst e; exact hp hh
  · exact h c h1 (by omega) hh

theorem Try.zeroFracR : (Try.prog.info? 38).bind (·.zero) = some (.agg #[.int .i64 0, .int .i64 0]) := by kernel_rfl

/-- What lowest holds. -/
structure LowI (x y n d p : Nat) : Prop where
  p2 : 2 ≤ p
  dp : 0 < d
  dy : d ≤ y
  nx : n ≤ x
  eq : n / Nat.gcd n d = x / Nat.gcd x y ∧ d / Nat.gcd n d = y / Nat.gcd x y
  nd : noDiv n d p

set_option maxHeartbeats 2000000 in
theorem lowest_nat (x y : Nat) (hx : x < 9223372036854775808) (hy : 0 < y) (hy2 : y ≤ 1000000000) (w : World) :
    Calls Try.prog 36 #[.int .i64 x, .int .i64 y] w (RetB (.agg #[.int .i64 (x / Nat.gcd x y : Nat), .int .i64 (y / Nat.gcd x y : Nat)]) w) := by
  go_enter Try.func36, Try.ntmps36
  go_wp2_with fail
  generalize hW : World.alloc w _ = W
  have B0 : Hid (Blk W w.heap.size 38 [.int .i64 0, .int .i64 0]) := by show Blk _ _ _ _; rw [← hW]; exact Blk.new w _ _
  have HB : Hid (Below w.heap.size w W) := by show Below _ _ _; rw [← hW]; exact (Below.refl _ _).alloc (Nat.le_refl _) _
  clear hW
  go_loopw [0, 1, 5] (fun s0 s1 s5 wr => ∃ n d p : Nat, s0 = .int .i64 n ∧ s1 = .int .i64 d ∧ s5 = .int .i64 p ∧ p ≤ y + 1 ∧ LowI x y n d p ∧ Mod (fun _ => False) W wr) (fun _ _ s _ => y + 2 - (intOf s).toNat)
  case atStart => exact ⟨x, y, 2, rfl, rfl, rfl, by omega, ⟨by omega, hy, Nat.le_refl _, Nat.le_refl _, ⟨rfl, rfl⟩, fun c h1 h2 => by omega⟩, Mod.refl _ _⟩
  case round =>
    obtain ⟨n, d, p, rfl, rfl, rfl, hpy, hi, hm⟩ := hrel
    have HI := Lib.hid hi
    have HM := Lib.hid hm
    have hp2 := hi.p2
    have hdp := hi.dp
    have hdy := hi.dy
    have hnx := hi.nx
    clear hi hm
    by_cases hpd : p ≤ d
    · have t1 : decide (p ≤ d) = true := by simp [hpd]
      have hpy2 : p ≤ y := by omega
      go_wp2_with fail
      clear t1
      obtain ⟨wq, rfl⟩ : ∃ wq : World, wq = wr := ⟨_, rfl⟩
      go_loopw [0, 1] (fun s0 s1 wr => ∃ n d : Nat, s0 = .int .i64 n ∧ s1 = .int .i64 d ∧ LowI x y n d p ∧ Mod (fun _ => False) W wr) (fun _ s _ => (intOf s).toNat)
      case atStart => exact ⟨n, d, rfl, rfl, HI.out, HM.out⟩
      case round =>
        clear hdp hdy hnx hpd HI HM
        obtain ⟨n, d, rfl, rfl, hi, hm⟩ := hrel
        have HI := Lib.hid hi
        have HM := Lib.hid hm
        have hdp := hi.dp
        have hdy := hi.dy
        have hnx := hi.nx
        clear hi hm
        have r1 : Int.tmod (n : Int) (p : Int) = ((n % p : Nat) : Int) := by rw [Int.tmod_eq_emod_of_nonneg (by omega)]; simp
        have r2 : Int.tmod (d : Int) (p : Int) = ((d % p : Nat) : Int) := by rw [Int.tmod_eq_emod_of_nonneg (by omega)]; simp
        have q1 : Int.tdiv (n : Int) (p : Int) = ((n / p : Nat) : Int) := by rw [Int.tdiv_eq_ediv_of_nonneg (by omega)]; simp
        have q2 : Int.tdiv (d : Int) (p : Int) = ((d / p : Nat) : Int) := by rw [Int.tdiv_eq_ediv_of_nonneg (by omega)]; simp
        have z1 : ¬ ((p : Int) = 0) := by omega
        have z2 : ((p : Int) == 0) = false := by simp; omega
        have l1 : n / p ≤ n := Nat.div_le_self _ _
        have l2 : d / p < d := Nat.div_lt_self hdp (by omega)
        obtain ⟨rn, HRN⟩ : ∃ rn, Hid (n % p = rn) := ⟨_, rfl⟩
        obtain ⟨rd, HRD⟩ : ∃ rd, Hid (d % p = rd) := ⟨_, rfl⟩
        obtain ⟨qn, HQN⟩ : ∃ qn, Hid (n / p = qn) := ⟨_, rfl⟩
        obtain ⟨qd, HQD⟩ : ∃ qd, Hid (d / p = qd) := ⟨_, rfl⟩
        rw [HRN.out] at r1
        rw [HRD.out] at r2
        rw [HQN.out] at q1 l1
        rw [HQD.out] at q2 l2
        by_cases hn0 : rn = 0
        · have t1 : ((rn : Int) == 0) = true := by simp [hn0]
          have HN0 := Lib.hid hn0
          clear hn0
          by_cases hd0 : rd = 0
          · have t2 : ((rd : Int) == 0) = true := by simp [hd0]
            have HD0 := Lib.hid hd0
            clear hd0
            go_wp2_with fail
            go_quiet (fail)
            go_wp2_with fail
            go_roundw
            case rel =>
              have dn : p ∣ n := Nat.dvd_of_mod_eq_zero (HRN.out.trans HN0.out)
              have dd : p ∣ d := Nat.dvd_of_mod_eq_zero (HRD.out.trans HD0.out)
              have hle := Nat.le_of_dvd hdp dd
              refine ⟨qn, qd, rfl, rfl, ?_, HM.out.drewN _⟩
              rw [← HQN.out, ← HQD.out]
              have hl := low_div (n := n) (d := d) (p := p) (by omega) dn dd
              exact ⟨hp2, Nat.div_pos hle (by omega), by rw [HQD.out]; omega, by rw [HQN.out]; omega, ⟨hl.1.trans HI.out.eq.1, hl.2.trans HI.out.eq.2⟩, noDiv_div HI.out.nd dn dd⟩
            case measure => simp [intOf]; omega
          · have t2 : ((rd : Int) == 0) = false := by simp; omega
            have HD0 := Lib.hid hd0
            clear hd0
            go_wp2_with fail
            go_roundw
            case rel => exact ⟨n, d, p + 1, rfl, rfl, by go_num, by omega, ⟨by omega, hdp, hdy, hnx, HI.out.eq, noDiv_next HI.out.nd (fun hh => HD0.out (HRD.out.symm.trans (Nat.mod_eq_zero_of_dvd hh.2)))⟩, HM.out⟩
            case measure => simp [intOf]; omega
        · have t1 : ((rn : Int) == 0) = false := by simp; omega
          have HN0 := Lib.hid hn0
          clear hn0
          go_wp2_with fail
          go_roundw
          case rel => exact ⟨n, d, p + 1, rfl, rfl, by go_num, by omega, ⟨by omega, hdp, hdy, hnx, HI.out.eq, noDiv_next HI.out.nd (fun hh => HN0.out (HRN.out.symm.trans (Nat.mod_eq_zero_of_dvd hh.1)))⟩, HM.out⟩
          case measure => simp [intOf]; omega
    · have t1 : decide (p ≤ d) = false := by simp; omega
      have B1 := Lib.hid (B0.out.mod HM.out (fun h => h))
      have z0 := B1.out.cell (i := 0) rfl
      have z1 := B1.out.cell (i := 1) rfl
      have f0 := B1.out.free 0
      have f1 := B1.out.free 1
      have HE : Hid (n = x / Nat.gcd x y ∧ d = y / Nat.gcd x y) := by
        have hg := noDiv_end hdp HI.out.nd (by omega)
        have := HI.out.eq
        rw [hg, Nat.div_one, Nat.div_one] at this
        exact this
      go_wp2_with fail
      refine bodyPost_ret (v := .agg #[.int .i64 n, .int .i64 d]) ?_ rfl ⟨by rw [← HE.out.1, ← HE.out.2], ?_⟩
      · simp [results, Try.results36, go_sem, z0, z1]
      · have hb : Below w.heap.size w wr := HB.out.trans (HM.out.below HB.out.size (fun _ h => h.elim))
        exact hb.trans (Mod.below (F := fun x => x = w.heap.size) (((Mod.refl (fun x => x = w.heap.size) _).setCell ⟨w.heap.size, 0, none⟩ (fun _ => rfl) _).setCell ⟨w.heap.size, 1, none⟩ (fun _ => rfl) _) hb.size (fun x hx => by have e : x = w.heap.size := hx; omega))

theorem lowest_ok (x : Int) (y : Nat) (hx : 0 ≤ x ∧ x < 9223372036854775808) (hy : 0 < y) (hy2 : y ≤ 1000000000) (w : World) :
    Calls Try.prog 36 #[.int .i64 x, .int .i64 y] w (RetB (.agg #[.int .i64 (lowN x y), .int .i64 (lowD x y)]) w) := by
  obtain ⟨a, rfl⟩ := Int.eq_ofNat_of_zero_le hx.1
  have := lowest_nat a y (by omega) hy hy2 w
  unfold lowN lowD
  simpa [Int.natCast_ediv] using this

set_option maxHeartbeats 1000000 in
theorem method_ok (m : Int) (w : World) : Calls Try.prog 25 #[.int .i64 m] w (Ret (.bool (decide (m = 1 ∨ m = 2 ∨ m = 3))) w) := by
  by_cases h1 : m = 1
  · subst h1
    go_enter Try.func25, Try.ntmps25
    go_wp2
    go_ret
    exact ⟨rfl, rfl⟩
  · have t1 : (m == 1) = false := by simp [h1]
    by_cases h2 : m = 2
    · subst h2
      go_enter Try.func25, Try.ntmps25
      go_wp2
      go_ret
      exact ⟨rfl, rfl⟩
    · have t2 : (m == 2) = false := by simp [h2]
      by_cases h3 : m = 3
      · subst h3
        go_enter Try.func25, Try.ntmps25
        go_wp2
        go_ret
        exact ⟨rfl, rfl⟩
      · have t3 : (m == 3) = false := by simp [h3]
        have HE : Hid (decide (m = 1 ∨ m = 2 ∨ m = 3) = false) := by show _ = _; simp [h1, h2, h3]
        clear h1 h2 h3
        go_enter Try.func25, Try.ntmps25
        go_wp2
        go_ret
        exact ⟨ret_bool HE.out.symm, rfl⟩

theorem visA_min {n : Nat} {d : List Int} {a b : List Nat} {i j : Nat} (hi : i < a.length) (hj : j < b.length) : visA 1 n d a b i (j + 1) = min (visA 1 n d a b i j) (at2 n d (a.getD i 0) (b.getD j 0)) := by
  by_cases h0 : i + j = 0
  · obtain rfl : i = 0 := by omega
    obtain rfl : j = 0 := by omega
    rw [visA_first hj]
    simp only [visA, if_true]
    omega
  · unfold visA
    rw [if_neg (by omega), if_neg h0, vis_step hj]
    have hlen := vis_len (n := n) (d := d) (a := a) (b := b) (i := i) (j := j) (by omega) (by omega)
    have hpos : 0 < i * b.length + j := by
      rcases Nat.eq_zero_or_pos i with e | e
      · omega
      · have := Nat.mul_pos e (show 0 < b.length by omega); omega
    have hne : vis n d a b i j ≠ [] := fun e => by rw [e] at hlen; simp at hlen; omega
    rw [agg_append hne (by simp)]
    simp [mixE, agg]

theorem visA_max {n : Nat} {d : List Int} {a b : List Nat} {i j : Nat} (hi : i < a.length) (hj : j < b.length) : visA 2 n d a b i (j + 1) = max (visA 2 n d a b i j) (at2 n d (a.getD i 0) (b.getD j 0)) := by
  by_cases h0 : i + j = 0
  · obtain rfl : i = 0 := by omega
    obtain rfl : j = 0 := by omega
    rw [visA_first hj]
    simp only [visA, if_true]
    omega
  · unfold visA
    rw [if_neg (by omega), if_neg h0, vis_step hj]
    have hlen := vis_len (n := n) (d := d) (a := a) (b := b) (i := i) (j := j) (by omega) (by omega)
    have hpos : 0 < i * b.length + j := by
      rcases Nat.eq_zero_or_pos i with e | e
      · omega
      · have := Nat.mul_pos e (show 0 < b.length by omega); omega
    have hne : vis n d a b i j ≠ [] := fun e => by rw [e] at hlen; simp at hlen; omega
    rw [agg_append hne (by simp)]
    simp [mixE, agg]

/-- The sum on the way. -/
def visS (n : Nat) (d : List Int) (a b : List Nat) (i j : Nat) : Int := if i + j = 0 then 0 else agg 3 (vis n d a b i j)

theorem visS_step {n : Nat} {d : List Int} {a b : List Nat} {i j : Nat} (hi : i < a.length) (hj : j < b.length) : visS n d a b i (j + 1) = visS n d a b i j + at2 n d (a.getD i 0) (b.getD j 0) := by
  unfold visS
  rw [if_neg (by omega), vis_step hj]
  by_cases h0 : i + j = 0
  · obtain rfl : i = 0 := by omega
    obtain rfl : j = 0 := by omega
    rw [if_pos rfl]
    simp [vis, cross, agg]
  · rw [if_neg h0]
    have hlen := vis_len (n := n) (d := d) (a := a) (b := b) (i := i) (j := j) (by omega) (by omega)
    have hpos : 0 < i * b.length + j := by
      rcases Nat.eq_zero_or_pos i with e | e
      · omega
      · have := Nat.mul_pos e (show 0 < b.length by omega); omega
    have hne : vis n d a b i j ≠ [] := fun e => by rw [e] at hlen; simp at hlen; omega
    rw [agg_append hne (by simp)]
    simp [mixE, agg]

theorem visS_lim {n : Nat} {d : List Int} (hd : DOk n d) {a b : List Nat} {i j : Nat} (hla : a.length ≤ 128) (hlb : b.length ≤ 128) (hi : i < a.length) (hj : j ≤ b.length) : 0 ≤ visS n d a b i j ∧ visS n d a b i j ≤ 18014398509481984 := by
  unfold visS
  split
  · omega
  · have hlen := vis_len (n := n) (d := d) (a := a) (b := b) (i := i) (j := j) (by omega) (by omega)
    have hbd := agg_bounds (m := 3) (M := 1099511627776) (by omega) (vis n d a b i j) (fun x hx => by obtain ⟨p, q, rfl⟩ := vis_mem hx; exact hd.lim p q)
    have hle : i * b.length + j ≤ 128 * 128 := by have h := Nat.mul_le_mul (show i + 1 ≤ 128 by omega) hlb; rw [Nat.succ_mul] at h; omega
    rw [hlen] at hbd
    generalize i * b.length + j = L at *
    omega

theorem vis_nextA {m : Int} {n : Nat} {d : List Int} {a b : List Nat} {i : Nat} (hi : i < a.length) (hb : 0 < b.length) : visA m n d a b i b.length = visA m n d a b (i + 1) 0 := by
  unfold visA; rw [if_neg (by omega), if_neg (by omega), vis_next hi]

theorem vis_nextS {n : Nat} {d : List Int} {a b : List Nat} {i : Nat} (hi : i < a.length) (hb : 0 < b.length) : visS n d a b i b.length = visS n d a b (i + 1) 0 := by
  unfold visS; rw [if_neg (by omega), if_neg (by omega), vis_next hi]

/-- The reference's distance. -/
def distR (m : Int) (n : Nat) (d : List Int) (a b : List Nat) : Int × Int :=
  if m = 3 then (lowN (gap 3 n d a b) ((a.length * b.length : Nat) : Int), lowD (gap 3 n d a b) ((a.length * b.length : Nat) : Int)) else (gap m n d a b, 1)

end Go.Proofs.Ythhddjknjnjbhaa
