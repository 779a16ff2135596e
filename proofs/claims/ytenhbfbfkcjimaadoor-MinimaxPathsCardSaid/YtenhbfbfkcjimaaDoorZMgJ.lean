/- Several texts in one: MmQ, MmC, MmF, MmG. -/
import Derived.Test.YtenhbfbfkcjimaaDoorZMmN
import Derived.Test.YtenhbfbfkcjimaaDoorZRcLw
import Derived.Test.YtenhbfbfkcjimaaDoorZStill
import Derived.Lib.QuietBelow
/- minimax: has, meeting, Minimax, Joined, Edge. -/
namespace Go.Proofs.YtenhbfbfkcjimaaDoor
set_option linter.unusedVariables false
set_option linter.unusedSimpArgs false
open Go.RowKit

/-- The inner node that joins two different vertices. -/
def mV (n : Nat) (l : List Ed) (u v : Int) : Option Nat := if (0 ≤ u ∧ u < n) ∧ (0 ≤ v ∧ v < n) ∧ u ≠ v then comV (bdL n l) (n + FN n l) u.toNat v.toNat else none
/-- The minimax distance. -/
def mmV (n : Nat) (l : List Ed) (u v : Int) : Option Int := if (0 ≤ u ∧ u < n) ∧ u = v then some (-9223372036854775808) else (mV n l u v).map fun c => wI l (fe n l (c - n))
def edV (n : Nat) (l : List Ed) (u v : Int) : Option Nat := (mV n l u v).map fun c => fe n l (c - n)
def intR (o : Option Int) : Value := .tuple #[.int .i64 (o.getD 0), .bool o.isSome]
def jnV (n : Nat) (l : List Ed) (u v th : Int) : Bool := match mmV n l u v with | none => false | some d => decide (d ≤ th)

theorem MObj.f0 {W : World} {M : MB} {n : Nat} {l : List Ed} (h : MObj W M n l) : W.cell? ⟨M.f, 0, none⟩ = some (.pointer (some ⟨M.tr, 0, none⟩)) := h.fin.cell (i := 0) rfl
theorem MObj.t0 {W : World} {M : MB} {n : Nat} {l : List Ed} (h : MObj W M n l) : W.cell? ⟨M.tr, 0, none⟩ = some (.pointer (some ⟨M.lb.p, 0, none⟩)) := h.tre.cell (i := 0) rfl
theorem MObj.t1 {W : World} {M : MB} {n : Nat} {l : List Ed} (h : MObj W M n l) : W.cell? ⟨M.tr, 1, none⟩ = some (.int .i64 (n : Int)) := h.tre.cell (i := 1) rfl
theorem MObj.t5 {W : World} {M : MB} {n : Nat} {l : List Ed} (h : MObj W M n l) : W.cell? ⟨M.tr, 5, none⟩ = some (.slice M.ta.h.o (n + FN n l) M.ta.h.c) := h.tre.cell (i := 5) rfl
theorem MObj.t7 {W : World} {M : MB} {n : Nat} {l : List Ed} (h : MObj W M n l) : W.cell? ⟨M.tr, 7, none⟩ = some (.slice M.fo (FN n l) M.fc) := h.tre.cell (i := 7) rfl
theorem MObj.t8 {W : World} {M : MB} {n : Nat} {l : List Ed} (h : MObj W M n l) : W.cell? ⟨M.tr, 8, none⟩ = some (.map (some M.mp)) := h.tre.cell (i := 8) rfl

section
variable (W : World) (M : MB) (n : Nat) (l : List Ed) (hM : MObj W M n l)
include hM

set_option maxHeartbeats 1000000 in
theorem mhas_ok (v : Int) : Calls Tryd.prog 41 #[.pointer (some ⟨M.f, 0, none⟩), .int .i64 v] W (Ret (.bool (inB v n)) W) := by
  have f0 := hM.f0
  have t1 := hM.t1
  by_cases hv : 0 ≤ v
  · have e1 : decide (0 ≤ v) = true := by simpa using hv
    have HIN : Hid (inB v n = decide (v < (n : Int))) := by show _ = _; unfold inB; rw [e1, Bool.true_and]
    go_enter Tryd.func41, Tryd.ntmps41
    go_wp2_with fail
    go_ret
    rw [HIN.out]
    exact ⟨rfl, rfl⟩
  · have e1 : decide (0 ≤ v) = false := by simpa using hv
    have HIN : Hid (inB v n = false) := by show _ = _; unfold inB; rw [e1, Bool.false_and]
    go_enter Tryd.func41, Tryd.ntmps41
    go_wp2_with fail
    go_ret
    rw [HIN.out]
    exact ⟨rfl, rfl⟩

variable (hg : GOk n l)
include hg

set_option maxHeartbeats 2000000 in
set_option maxRecDepth 100000 in
theorem meeting_ok (hT : Tab64 W) (u v : Int) : Calls Tryd.prog 34 #[.pointer (some ⟨M.f, 0, none⟩), .int .i64 u, .int .i64 v] W (RetB (comR (mV n l u v)) W) := by
  have HM := Lib.hid hM
  have HG := Lib.hid hg
  have HT := Lib.hid hT
  have f0 := hM.f0
  have t0 := hM.t0
  clear hM hg hT
  by_cases hu : 0 ≤ u ∧ u < n
  · have eu : inB u n = true := by unfold inB; simp; omega
    by_cases hv : 0 ≤ v ∧ v < n
    · have ev : inB v n = true := by unfold inB; simp; omega
      obtain ⟨a, rfl⟩ := Int.eq_ofNat_of_zero_le hu.1
      obtain ⟨b, rfl⟩ := Int.eq_ofNat_of_zero_le hv.1
      have ha : a < n := by omega
      have hb : b < n := by omega
      by_cases hab : a = b
      · have e1 : ((a : Int) == (b : Int)) = true := by simp [hab]
        have HR : Hid (mV n l (a : Int) (b : Int) = none) := by show _ = _; unfold mV; rw [if_neg (by omega)]
        clear hab
        have HU := Lib.hid eu
        have HV := Lib.hid ev
        clear eu ev
        go_enter Tryd.func34, Tryd.ntmps34
        go_wp2_with fail
        with_reducible refine (mhas_ok W M n l HM.out _).mono ?_
        rintro e w1 ⟨rfl, rfl⟩
        rw [HU.out]
        go_wp2_with fail
        with_reducible refine (mhas_ok W M n l HM.out _).mono ?_
        rintro e w1 ⟨rfl, rfl⟩
        rw [HV.out]
        go_wp2_with fail
        go_ret2
        exact ⟨by rw [HR.out]; rfl, Below.refl _ _⟩
      · have e1 : ((a : Int) == (b : Int)) = false := by simp; omega
        have HR : Hid (mV n l (a : Int) (b : Int) = comV (bdL n l) (n + FN n l) a b) := by show _ = _; unfold mV; rw [if_pos (by omega)]; rfl
        clear hab
        have HU := Lib.hid eu
        have HV := Lib.hid ev
        clear eu ev
        go_enter Tryd.func34, Tryd.ntmps34
        go_wp2_with fail
        with_reducible refine (mhas_ok W M n l HM.out _).mono ?_
        rintro e w1 ⟨rfl, rfl⟩
        rw [HU.out]
        go_wp2_with fail
        with_reducible refine (mhas_ok W M n l HM.out _).mono ?_
        rintro e w1 ⟨rfl, rfl⟩
        rw [HV.out]
        go_wp2_with fail
        with_reducible refine (common_ok W M.lb (bdL n l) n (n + FN n l) _ (bdL_tv3 HG.out) HM.out.tab HT.out a b (by omega) (by omega)).mono ?_
        rintro e w1 ⟨rfl, hb1⟩
        have HB := Lib.hid hb1
        clear hb1
        rw [← HR.out]
        generalize mV n l (a : Int) (b : Int) = o at *
        unfold comR
        go_wp2_with fail
        go_ret2
        exact ⟨rfl, HB.out⟩
    · have HV : Hid (inB v n = false) := by show _ = _; unfold inB; simp; omega
      have HR : Hid (mV n l u v = none) := by show _ = _; unfold mV; rw [if_neg (fun h => hv h.2.1)]
      have HU := Lib.hid eu
      clear eu hu hv
      go_enter Tryd.func34, Tryd.ntmps34
      go_wp2_with fail
      with_reducible refine (mhas_ok W M n l HM.out _).mono ?_
      rintro e w1 ⟨rfl, rfl⟩
      rw [HU.out]
      go_wp2_with fail
      with_reducible refine (mhas_ok W M n l HM.out _).mono ?_
      rintro e w1 ⟨rfl, rfl⟩
      rw [HV.out]
      go_wp2_with fail
      go_ret2
      exact ⟨by rw [HR.out]; rfl, Below.refl _ _⟩
  · have HU : Hid (inB u n = false) := by show _ = _; unfold inB; simp; omega
    have HR : Hid (mV n l u v = none) := by show _ = _; unfold mV; rw [if_neg (fun h => hu h.1)]
    clear hu
    go_enter Tryd.func34, Tryd.ntmps34
    go_wp2_with fail
    with_reducible refine (mhas_ok W M n l HM.out _).mono ?_
    rintro e w1 ⟨rfl, rfl⟩
    rw [HU.out]
    go_wp2_with fail
    go_ret2
    exact ⟨by rw [HR.out]; rfl, Below.refl _ _⟩

set_option maxHeartbeats 2000000 in
set_option maxRecDepth 100000 in
theorem minimax_ok (hT : Tab64 W) (u v : Int) : Calls Tryd.prog 20 #[.pointer (some ⟨M.f, 0, none⟩), .int .i64 u, .int .i64 v] W (RetB (intR (mmV n l u v)) W) := by
  have HM := Lib.hid hM
  have HG := Lib.hid hg
  have HT := Lib.hid hT
  have HMEET := Lib.hid (meeting_ok W M n l hM hg hT u v)
  clear hM hg hT
  have HC : Hid (∀ c, mV n l u v = some c → n ≤ c ∧ c < n + FN n l) := fun c hc => by
    unfold mV at hc
    split at hc
    · rename_i h
      exact comV_inner (bdL_tv3 HG.out) (by omega) (by omega) (by omega) hc
    · cases hc
  by_cases hu : 0 ≤ u ∧ u < n
  · have HU : Hid (inB u n = true) := by show _ = _; unfold inB; simp; omega
    by_cases huv : u = v
    · have e1 : (u == v) = true := by simp [huv]
      have HR : Hid (mmV n l u v = some (-9223372036854775808)) := by show _ = _; unfold mmV; rw [if_pos ⟨hu, huv⟩]
      clear hu huv
      go_enter Tryd.func20, Tryd.ntmps20
      go_wp2_with fail
      with_reducible refine (mhas_ok W M n l HM.out _).mono ?_
      rintro e w1 ⟨rfl, rfl⟩
      rw [HU.out]
      go_wp2_with fail
      go_ret2
      exact ⟨by rw [HR.out]; rfl, Below.refl _ _⟩
    · have e1 : (u == v) = false := by simp [huv]
      have HR : Hid (mmV n l u v = (mV n l u v).map fun c => wI l (fe n l (c - n))) := by show _ = _; unfold mmV; rw [if_neg (fun h => huv h.2)]
      clear hu huv
      go_enter Tryd.func20, Tryd.ntmps20
      go_wp2_with fail
      with_reducible refine (mhas_ok W M n l HM.out _).mono ?_
      rintro e w1 ⟨rfl, rfl⟩
      rw [HU.out]
      go_wp2_with fail
      with_reducible refine HMEET.out.mono ?_
      rintro e w1 ⟨rfl, hb1⟩
      have HB := Lib.hid hb1
      have HM1 := Lib.hid (HM.out.below hb1)
      clear hb1
      cases hc : mV n l u v with
      | none =>
        have HV1 : Hid (intR (mmV n l u v) = .tuple #[.int .i64 0, .bool false]) := by show _ = _; rw [HR.out, hc]; rfl
        clear hc
        unfold comR
        simp only [Option.getD_none, Option.isSome_none]
        go_wp2_with fail
        go_ret2
        exact ⟨by rw [HV1.out]; rfl, HB.out⟩
      | some c =>
        have HV1 : Hid (intR (mmV n l u v) = .tuple #[.int .i64 (wI l (fe n l (c - n))), .bool true]) := by show _ = _; rw [HR.out, hc]; rfl
        obtain ⟨h1, h2⟩ := HC.out c hc
        have f0 := HM1.out.f0
        have t5 := HM1.out.t5
        have hh := HM1.out.tree.h.cell (c) (by rw [(bdL_tv3 HG.out).hl]; exact h2)
        have hha := HM1.out.tree.h.adr (by rw [(bdL_tv3 HG.out).hl]; omega)
        have hgi : (bdL n l).hgt.getD c 0 = wI l (fe n l (c - n)) := by
          have := bdL_hgt HG.out (i := c - n) (by omega)
          rw [show n + (c - n) = c by omega] at this
          exact this
        rw [hgi] at hh
        rw [hha] at t5
        have t1 : (c : Int) < ((n + FN n l : Nat) : Int) := by omega
        have t0 : (0 : Int) ≤ (c : Int) := by omega
        generalize n + FN n l = mm at *
        clear hc hgi hha h1
        unfold comR
        simp only [Option.getD_some, Option.isSome_some]
        generalize wI l (fe n l (c - n)) = z at *
        go_wp2_with fail
        go_ret2
        exact ⟨by rw [HV1.out]; rfl, HB.out⟩
  · have HU : Hid (inB u n = false) := by show _ = _; unfold inB; simp; omega
    have HR : Hid (mmV n l u v = none) := by
      show _ = _
      unfold mmV mV
      rw [if_neg (fun h => hu h.1), if_neg (fun h => hu h.1)]
      rfl
    have HR2 : Hid (mV n l u v = none) := by show _ = _; unfold mV; rw [if_neg (fun h => hu h.1)]
    clear hu
    go_enter Tryd.func20, Tryd.ntmps20
    go_wp2_with fail
    with_reducible refine (mhas_ok W M n l HM.out _).mono ?_
    rintro e w1 ⟨rfl, rfl⟩
    rw [HU.out]
    go_wp2_with fail
    with_reducible refine HMEET.out.mono ?_
    rintro e w1 ⟨rfl, hb1⟩
    have HB := Lib.hid hb1
    clear hb1
    rw [HR2.out]
    unfold comR
    simp only [Option.getD_none, Option.isSome_none]
    go_wp2_with fail
    go_ret2
    exact ⟨by rw [HR.out]; rfl, HB.out⟩

set_option maxHeartbeats 1000000 in
theorem joined_ok (hT : Tab64 W) (u v th : Int) : Calls Tryd.prog 25 #[.pointer (some ⟨M.f, 0, none⟩), .int .i64 u, .int .i64 v, .int .i64 th] W (RetB (.bool (jnV n l u v th)) W) := by
  have HX := Lib.hid (minimax_ok W M n l hM hg hT u v)
  clear hM hg hT
  have HJ : Hid (∀ o, mmV n l u v = o → jnV n l u v th = match o with | none => false | some d => decide (d ≤ th)) := fun o ho => by rw [← ho]; rfl
  generalize jnV n l u v th = J at *
  generalize mmV n l u v = o at *
  cases o with
  | none =>
    have HJ2 := Lib.hid (HJ.out none rfl)
    clear HJ
    go_enter Tryd.func25, Tryd.ntmps25
    go_wp2_with fail
    with_reducible refine HX.out.mono ?_
    rintro e w1 ⟨rfl, hb1⟩
    have HB := Lib.hid hb1
    clear hb1
    unfold intR
    simp only [Option.getD_none, Option.isSome_none]
    go_wp2_with fail
    go_ret
    exact ⟨by rw [HJ2.out]; rfl, HB.out⟩
  | some d =>
    have HJ2 := Lib.hid (HJ.out (some d) rfl)
    clear HJ
    go_enter Tryd.func25, Tryd.ntmps25
    go_wp2_with fail
    with_reducible refine HX.out.mono ?_
    rintro e w1 ⟨rfl, hb1⟩
    have HB := Lib.hid hb1
    clear hb1
    unfold intR
    simp only [Option.getD_some, Option.isSome_some]
    go_wp2_with fail
    go_ret
    exact ⟨by rw [HJ2.out]; rfl, HB.out⟩

set_option maxHeartbeats 2000000 in
set_option maxRecDepth 100000 in
theorem edge_ok (hT : Tab64 W) (u v : Int) : Calls Tryd.prog 21 #[.pointer (some ⟨M.f, 0, none⟩), .int .i64 u, .int .i64 v] W (RetB (comR (edV n l u v)) W) := by
  have HM := Lib.hid hM
  have HG := Lib.hid hg
  have HMEET := Lib.hid (meeting_ok W M n l hM hg hT u v)
  clear hM hg hT
  have HC : Hid (∀ c, mV n l u v = some c → n ≤ c ∧ c < n + FN n l) := fun c hc => by
    unfold mV at hc
    split at hc
    · rename_i h
      exact comV_inner (bdL_tv3 HG.out) (by omega) (by omega) (by omega) hc
    · cases hc
  have hn4 := HG.out.hn
  go_enter Tryd.func21, Tryd.ntmps21
  go_wp2_with fail
  with_reducible refine HMEET.out.mono ?_
  rintro e w1 ⟨rfl, hb1⟩
  have HB := Lib.hid hb1
  have HM1 := Lib.hid (HM.out.below hb1)
  clear hb1
  cases hc : mV n l u v with
  | none =>
    have HV1 : Hid (comR (edV n l u v) = .tuple #[.int .i64 0, .bool false]) := by show _ = _; unfold edV; rw [hc]; rfl
    clear hc
    unfold comR
    simp only [Option.getD_none, Option.isSome_none]
    go_wp2_with fail
    go_ret2
    exact ⟨by rw [HV1.out]; rfl, HB.out⟩
  | some c =>
    have HV1 : Hid (comR (edV n l u v) = .tuple #[.int .i64 (fe n l (c - n) : Nat), .bool true]) := by show _ = _; unfold edV; rw [hc]; rfl
    obtain ⟨h1, h2⟩ := HC.out c hc
    obtain ⟨j, rfl⟩ : ∃ j, c = n + j := ⟨c - n, by omega⟩
    have hj : j < FN n l := by omega
    have f0 := HM1.out.f0
    have t1 := HM1.out.t1
    have t7 := HM1.out.t7
    have hh := HM1.out.frow.cell j hj
    have hha := HM1.out.frow.adr (by omega)
    rw [nI_at hj, Nat.zero_add] at hh
    have hfe : (forL n l).getD j 0 = fe n l (n + j - n) := by rw [show n + j - n = j by omega]; rfl
    rw [hfe] at hh
    rw [hha] at t7
    have hfl : FN n l ≤ 4096 := by have := (bdL_tv3 HG.out).two; omega
    generalize FN n l = N at *
    have u1 : (j : Int) < (N : Int) := by omega
    have u0 : (0 : Int) ≤ (j : Int) := by omega
    have uw : IntKind.i64.wrap (((n + j : Nat) : Int) - (n : Int)) = (j : Int) := by rw [IntWalk.i64_in _ (by omega)]; omega
    clear hc hfe hha h1 h2 hj
    unfold comR
    simp only [Option.getD_some, Option.isSome_some]
    generalize fe n l (n + j - n) = z at *
    go_wp2_with fail
    go_quiet (fail)
    go_wp2_with fail
    go_ret2
    exact ⟨by rw [HV1.out]; rfl, bel_drewN HB.out _⟩

end

end Go.Proofs.YtenhbfbfkcjimaaDoor

/- minimax.Count. -/
namespace Go.Proofs.YtenhbfbfkcjimaaDoor
set_option linter.unusedVariables false
set_option linter.unusedSimpArgs false
open Go.RowKit

def topB (t : Tr) (th : Int) (x : Nat) : Bool := decide (gi t.par x < 0) || decide (th < gi t.hgt (gi t.par x).toNat)
def pairs2 (s : Nat) : Nat := s * (s - 1) / 2
/-- The pairs below the highest nodes among the first x. -/
def cntT (t : Tr) (n : Nat) (th : Int) : Nat → Nat
  | 0 => 0
  | x + 1 => cntT t n th x + if n ≤ x ∧ gi t.hgt x ≤ th ∧ topB t th x = true then pairs2 (gi t.siz x).toNat else 0
theorem pairs2_le {s : Nat} (h : s ≤ 4096) : pairs2 s ≤ 8386560 := by
  unfold pairs2
  have : s * (s - 1) ≤ 4096 * 4095 := Nat.mul_le_mul h (by omega)
  omega
theorem cntT_le {t : Tr} {n m : Nat} {ls : List Nat} (h : TV t n m ls) (th : Int) : ∀ x, x ≤ m → cntT t n th x ≤ x * 8386560
  | 0, _ => by simp [cntT]
  | x + 1, hx => by
    have ih := cntT_le h th x (by omega)
    have hs : (gi t.siz x).toNat ≤ 4096 := by
      have h1 := lv_size h x (by omega)
      have h2 := lv_len_le t n m x
      have := h.hn
      omega
    have hp := pairs2_le hs
    show cntT t n th x + (if n ≤ x ∧ gi t.hgt x ≤ th ∧ topB t th x = true then pairs2 (gi t.siz x).toNat else 0) ≤ (x + 1) * 8386560
    generalize pairs2 (gi t.siz x).toNat = q at *
    generalize cntT t n th x = r at *
    rw [Nat.add_mul, Nat.one_mul]
    split
    · exact Nat.add_le_add ih hp
    · exact Nat.add_le_add ih (Nat.zero_le _)

theorem pairs_wrap {r s : Nat} (h1 : 1 ≤ s) (h2 : s ≤ 4096) (hr : r ≤ 68702699520) : wrap64 ((r : Int) + wrap64 ((wrap64 ((s : Int) * ((s : Int) - 1))).tdiv 2)) = ((r + pairs2 s : Nat) : Int) := by
  have hp := pairs2_le h2
  have hb : s * (s - 1) ≤ 4096 * 4095 := Nat.mul_le_mul h2 (by omega)
  have e : (s : Int) * ((s : Int) - 1) = ((s * (s - 1) : Nat) : Int) := by
    rw [Int.natCast_mul, Int.natCast_sub h1]; rfl
  rw [e]
  unfold pairs2 at hp ⊢
  generalize s * (s - 1) = q at *
  rw [IntWalk.wrap64_in (q : Int) (by omega)]
  have e2 : ((q : Int)).tdiv 2 = ((q / 2 : Nat) : Int) := by
    rw [Int.tdiv_eq_ediv_of_nonneg (by omega)]; rfl
  rw [e2, IntWalk.wrap64_in ((q / 2 : Nat) : Int) (by omega), IntWalk.wrap64_in _ (by omega)]
  omega

set_option maxHeartbeats 8000000 in
set_option maxRecDepth 100000 in
theorem count_ok (W : World) (M : MB) (n : Nat) (l : List Ed) (hM : MObj W M n l) (hg : GOk n l) (th : Int) : Calls Tryd.prog 22 #[.pointer (some ⟨M.f, 0, none⟩), .int .i64 th] W (RetB (.int .i64 ((cntT (bdL n l) n th (n + FN n l) : Nat) : Int)) W) := by
  have HM := Lib.hid hM
  have TVH := Lib.hid (bdL_tv3 hg)
  have f0 := hM.f0
  have t5 := hM.t5
  have t4 : W.cell? ⟨M.tr, 4, none⟩ = some (.slice M.ta.p.o (n + FN n l) M.ta.p.c) := hM.tre.cell (i := 4) rfl
  have t6 : W.cell? ⟨M.tr, 6, none⟩ = some (.slice M.ta.s.o (n + FN n l) M.ta.s.c) := hM.tre.cell (i := 6) rfl
  have hn4 := hg.hn
  have hm2 := (bdL_tv3 hg).two
  obtain ⟨m, hm⟩ : ∃ m, n + FN n l = m := ⟨_, rfl⟩
  obtain ⟨T, hT⟩ : ∃ T, bdL n l = T := ⟨_, rfl⟩
  have hnm : n ≤ m := by omega
  have HTR := Lib.hid hM.tree
  have HMM := Lib.hid hm
  rw [hm] at t4 t5 t6 hm2 TVH ⊢
  rw [hT] at HTR TVH ⊢
  clear hM hg hm hT
  go_enter Tryd.func22, Tryd.ntmps22
  go_wp2_with fail
  clear f0 t4 t5 t6
  go_loopw [6, 30] (fun s6 s30 wr => ∃ x : Nat, x ≤ m ∧ s30 = .int .i64 x ∧ s6 = .int .i64 ((cntT T n th x : Nat) : Int) ∧ Below W.heap.size W wr) (fun _ s30 _ => m - (intOf s30).toNat)
  case atStart => exact ⟨0, Nat.zero_le _, rfl, rfl, Below.refl _ _⟩
  case round =>
    obtain ⟨x, hx, rfl, rfl, hb⟩ := hrel
    have HB := Lib.hid hb
    have HM1 := Lib.hid (HM.out.below hb)
    have HT1 := Lib.hid (HTR.out.below hb)
    clear hb
    have hcl := cntT_le TVH.out th x hx
    by_cases hxm : x < m
    · have tx : decide (x < m) = true := decide_eq_true hxm
      have tx1 : (x : Int) < (m : Int) := by omega
      have tx0 : (0 : Int) ≤ (x : Int) := by omega
      have ch := HT1.out.h.cell x (by rw [TVH.out.hl]; exact hxm)
      have ah := HT1.out.h.adr (by rw [TVH.out.hl]; omega)
      have e1 : T.hgt.getD x 0 = gi T.hgt x := rfl
      rw [e1] at ch
      rw [ah]
      have HAH := Lib.hid ah
      obtain ⟨z, hz⟩ : ∃ z, gi T.hgt x = z := ⟨_, rfl⟩
      have HZ := Lib.hid hz
      rw [hz] at ch
      clear e1 hz ah
      go_wp2_with fail
      go_cut [9] (fun s9 wx => s9 = .bool (topB T th x) ∧ Below wr.heap.size wr wx)
      case first =>
        have t5 := HM1.out.t5
        have t4 : wr.cell? ⟨M.tr, 4, none⟩ = some (.slice M.ta.p.o (n + FN n l) M.ta.p.c) := HM1.out.tre.cell (i := 4) rfl
        rw [HMM.out] at t4 t5
        have cp := HT1.out.p.cell x (by rw [TVH.out.pl]; exact hxm)
        have ap := HT1.out.p.adr (by rw [TVH.out.pl]; omega)
        have e1 : T.par.getD x 0 = gi T.par x := rfl
        rw [e1] at cp
        rw [ap] at t4
        rw [HAH.out] at t5
        clear e1 ap ch
        rcases TVH.out.par hxm with e | ⟨p, e, hxp, hnp, hpm, _⟩
        · have HTB : Hid (topB T th x = true) := by show _ = _; unfold topB; rw [e]; rfl
          rw [e] at cp
          have tz : decide ((-1 : Int) < 0) = true := by decide
          clear e
          go_quiet (fail)
          go_wp2_with fail
          go_meet
          exact ⟨by rw [HTB.out], bel_drewN (Below.refl _ _) _⟩
        · have HTB : Hid (topB T th x = decide (th < gi T.hgt p)) := by
            show _ = _
            unfold topB
            rw [e, decide_eq_false (by omega), Bool.false_or, Int.toNat_natCast]
          have cq := HT1.out.h.cell p (by rw [TVH.out.hl]; exact hpm)
          have e1 : T.hgt.getD p 0 = gi T.hgt p := rfl
          rw [e1] at cq
          rw [e] at cp
          generalize gi T.hgt p = y at *
          have tp1 : (p : Int) < (m : Int) := by omega
          have tp0 : (0 : Int) ≤ (p : Int) := by omega
          have tz : decide ((p : Int) < 0) = false := by simp
          clear e e1
          go_quiet (fail)
          go_wp2_with fail
          go_meet
          exact ⟨by rw [HTB.out], bel_drewN (Below.refl _ _) _⟩
      case rest =>
        obtain ⟨rfl, hb9⟩ := hcut
        have HBC := Lib.hid (bel_then HB.out hb9)
        have HMC := Lib.hid (HM1.out.below hb9)
        have HTC := Lib.hid (HT1.out.below hb9)
        clear hb9 HM1 HT1 HB ch
        have t1 := HMC.out.t1
        have HCS : Hid (cntT T n th (x + 1) = cntT T n th x + if n ≤ x ∧ gi T.hgt x ≤ th ∧ topB T th x = true then pairs2 (gi T.siz x).toNat else 0) := rfl
        generalize cntT T n th x = r at *
        generalize topB T th x = tp at *
        by_cases hnx : n ≤ x
        · have g1 : decide (n ≤ x) = true := decide_eq_true hnx
          by_cases hzt : z ≤ th
          · have g2 : decide (z ≤ th) = true := decide_eq_true hzt
            cases tp with
            | true =>
              have HCS2 : Hid (cntT T n th (x + 1) = r + pairs2 (gi T.siz x).toNat) := by
                show _ = _
                rw [HCS.out, if_pos ⟨hnx, by rw [HZ.out]; exact hzt, rfl⟩]
              have hs := lv_size TVH.out x hxm
              have hs2 := lv_len_le T n m x
              have hs1 : 1 ≤ (leavesL T n m x).length := (lv_head TVH.out hxm).1
              obtain ⟨s, hse⟩ : ∃ s, (leavesL T n m x).length = s := ⟨_, rfl⟩
              rw [hse] at hs hs2 hs1
              have t6 : wc.cell? ⟨M.tr, 6, none⟩ = some (.slice M.ta.s.o (n + FN n l) M.ta.s.c) := HMC.out.tre.cell (i := 6) rfl
              rw [HMM.out] at t6
              have cs := HTC.out.s.cell x (by rw [TVH.out.sl]; exact hxm)
              have aas := HTC.out.s.adr (by rw [TVH.out.sl]; omega)
              have e1 : T.siz.getD x 0 = gi T.siz x := rfl
              rw [e1, hs] at cs
              rw [aas] at t6
              rw [hs, Int.toNat_natCast] at HCS2
              have hp2 := pairs2_le (s := s) (by omega)
              have hbd : s * (s - 1) ≤ 4096 * 4095 := Nat.mul_le_mul (by omega) (by omega)
              clear hnx hzt hse hs aas e1 HCS
              have HPW := Lib.hid (pairs_wrap (r := r) (s := s) hs1 (by omega) (by omega))
              go_wp2_with fail
              go_roundw
              case rel => exact ⟨x + 1, by omega, by go_num, by rw [HPW.out, HCS2.out], HBC.out⟩
              case measure => simp [intOf]; omega
            | false =>
              have HCS2 : Hid (cntT T n th (x + 1) = r) := by
                show _ = _
                rw [HCS.out, if_neg (fun h => by cases h.2.2)]; rfl
              clear hnx hzt HCS
              go_wp2_with fail
              go_roundw
              case rel => exact ⟨x + 1, by omega, by go_num, by rw [HCS2.out], HBC.out⟩
              case measure => simp [intOf]; omega
          · have g2 : decide (z ≤ th) = false := decide_eq_false hzt
            have HCS2 : Hid (cntT T n th (x + 1) = r) := by
              show _ = _
              rw [HCS.out, if_neg (fun h => hzt (by rw [← HZ.out]; exact h.2.1))]; rfl
            clear hnx hzt HCS
            go_wp2_with fail
            go_roundw
            case rel => exact ⟨x + 1, by omega, by go_num, by rw [HCS2.out], HBC.out⟩
            case measure => simp [intOf]; omega
        · have g1 : decide (n ≤ x) = false := decide_eq_false hnx
          have HCS2 : Hid (cntT T n th (x + 1) = r) := by
            show _ = _
            rw [HCS.out, if_neg (fun h => hnx h.1)]; rfl
          clear hnx HCS
          go_wp2_with fail
          go_roundw
          case rel => exact ⟨x + 1, by omega, by go_num, by rw [HCS2.out], HBC.out⟩
          case measure => simp [intOf]; omega
    · obtain rfl : m = x := by omega
      have tx : decide (m < m) = false := by simp
      clear hxm hx
      go_wp2_with fail
      go_ret
      exact ⟨rfl, HB.out⟩

end Go.Proofs.YtenhbfbfkcjimaaDoor

/- minimax: component, Farthest. -/
namespace Go.Proofs.YtenhbfbfkcjimaaDoor
set_option linter.unusedVariables false
set_option linter.unusedSimpArgs false
open Go.RowKit Go.Shelf Go.Sort
attribute [local go_sem] Oper.semAt_some

/-- The vertices of u's component. -/
def compL (n : Nat) (l : List Ed) (u : Nat) : List Nat := leavesL (bdL n l) n (n + FN n l) (rt (bdL n l) (n + FN n l) u)

theorem leavesO_of {t : Tr} {n m : Nat} {ls : List Nat} (h : TV t n m ls) {x : Nat} (hx : x < m) : leavesO t (x : Int) = some (leavesL t n m x) := by
  have hl := h.ls_some
  rw [leavesO_some hl (by rw [h.pl]; omega), h.pl, h.lv, Int.toNat_natCast, Int.toNat_natCast]

theorem tree_agg {t : Tr} {n m : Nat} {ls : List Nat} (h : TV t n m ls) (A : TA) : A.agg t = .agg #[.int .i64 (n : Int), .slice A.l.o m A.l.c, .slice A.r.o m A.r.c, .slice A.p.o m A.p.c, .slice A.h.o m A.h.c, .slice A.s.o m A.s.c] := by
  unfold TA.agg
  rw [h.lv, h.ll, h.rl, h.pl, h.hl, h.sl]

set_option maxHeartbeats 1000000 in
theorem component_any (f : Value) (u : Int) (w : World) (hf : ∃ a, f = .pointer a) : Calls Tryd.prog 45 #[f, .int .i64 u] w
    (Ret (.func (.func 56) #[] #[.pointer (some ⟨w.heap.size, 0, none⟩), .pointer (some ⟨w.heap.size + 1, 0, none⟩)]) ((w.alloc (.cells #[f] 25)).alloc (.cells #[.int .i64 u] 3))) := by
  obtain ⟨a, rfl⟩ := hf
  go_enter Tryd.func45, Tryd.ntmps45
  go_wp2
  go_ret
  exact ⟨rfl, rfl⟩

set_option maxHeartbeats 8000000 in
set_option maxRecDepth 100000 in
theorem comp1_in (F pb ub : Nat) (M : MB) (n : Nat) (l : List Ed) (hg : GOk n l) (u : Nat) (hu : u < n) (L : Nat) (I : Nat → World → Prop) (W : World) (hI : ∀ i X, I i X → X.cell? ⟨pb, 0, none⟩ = some (.pointer (some ⟨M.f, 0, none⟩)) ∧ X.cell? ⟨ub, 0, none⟩ = some (.int .i64 (u : Int)) ∧ MObj X M n l ∧ Tab64 X)
    (hmono : ∀ i X X', I i X → Below X.heap.size X X' → I i X') (h : I 0 W)
    (hY : ∀ i W1, i < (compL n l u).length → I i W1 → W.heap.size ≤ W1.heap.size → YieldAt Fence.wide (F - 1) Tryd.prog L #[.int .i64 (((compL n l u).getD i 0 : Nat) : Int)] W1 fun e W' => e = .returned (.bool true) ∧ I (i + 1) W' ∧ Mod (fun b => b < W.heap.size) W1 W') :
    CallsIn Fence.wide F Tryd.prog 56 #[.func (.yield L) #[] #[], .pointer (some ⟨pb, 0, none⟩), .pointer (some ⟨ub, 0, none⟩)] W
      fun e W' => (∃ v, e = .returned v) ∧ I (compL n l u).length W' := by
  have H := Lib.hid h
  have HY := Lib.hid hY
  have HI := Lib.hid hI
  have HMO := Lib.hid hmono
  have HG := Lib.hid hg
  have TVH := Lib.hid (bdL_tv3 hg)
  have HIN := Lib.hid (inB_nat hu)
  obtain ⟨c0, c1, _, _⟩ := hI _ _ h
  have hm2 := (bdL_tv3 hg).two
  have hn4 := hg.hn
  clear h hY hI hmono hg
  refine callsIn_of_wp Tryd.func56 rfl trivial ?_ rfl
  simp only [Tryd.ntmps56, List.size_toArray, List.length_cons, List.length_nil, Nat.reduceAdd, Nat.reduceSub, Array.replicate_succ, Array.replicate_zero, List.push_toArray, List.append_toArray, List.nil_append, List.cons_append]
  refine wpIn_wide.2 ?_
  go_wp2_with fail
  with_reducible refine (mhas_ok W M n l (HI.out _ _ H.out).2.2.1 _).mono ?_
  rintro e w1 ⟨rfl, rfl⟩
  rw [HIN.out]
  go_wp2_with fail
  have f0 := (HI.out _ _ H.out).2.2.1.f0
  have t0 := (HI.out _ _ H.out).2.2.1.t0
  have HRT : Hid (∀ d os, Calls Tryd.prog 57 #[.pointer (some ⟨M.lb.p, 0, none⟩), .int .i64 (u : Int)] (grow (redrawn W d) os) (fun e w' => e = .returned (.tuple #[.int .i64 ((rt (bdL n l) (n + FN n l) u : Nat) : Int), .bool true]) ∧ Below (grow (redrawn W d) os).heap.size (grow (redrawn W d) os) w')) := fun d os => by
    have hb := below_regrown W d os
    have hx := HI.out _ _ (HMO.out _ _ _ H.out hb)
    exact (root_ok _ M.lb (bdL n l) n (n + FN n l) _ TVH.out hx.2.2.1.tab hx.2.2.2 u (by omega)).mono fun _ _ ⟨he, hb⟩ => ⟨he, hb⟩
  replace c0 := cell_regrown c0
  replace c1 := cell_regrown c1
  replace f0 := cell_regrown f0
  replace t0 := cell_regrown t0
  refine wp_region_quiet_below (by kernel_rfl) (by kernel_rfl) ?_
  repeat (go_big_quiet_step ((go_at_call 57; exact Calls.regrown_of (HRT.out _ _))))
  refine wpQuiet_nil ?_
  intro w5 hw5
  obtain ⟨⟨dq, osq⟩, hw5⟩ := hw5
  have hb5 : Below W.heap.size W w5 := by rw [hw5]; exact below_regrown W dq osq
  have H5 := Lib.hid (HMO.out _ _ _ H.out hb5)
  have HBW5 := Lib.hid hb5
  clear hw5 hb5 HRT c0 c1 f0 t0
  have hrm := (rt_lt TVH.out u (by omega)).1
  have HCL : Hid (leavesL (bdL n l) n (n + FN n l) (rt (bdL n l) (n + FN n l) u) = compL n l u) := rfl
  generalize rt (bdL n l) (n + FN n l) u = rr at *
  obtain ⟨c0, c1, _, _⟩ := HI.out _ _ H5.out
  have f0 := (HI.out _ _ H5.out).2.2.1.f0
  have x1 := (HI.out _ _ H5.out).2.2.1.tre.cell (i := 1) rfl
  have x2 := (HI.out _ _ H5.out).2.2.1.tre.cell (i := 2) rfl
  have x3 := (HI.out _ _ H5.out).2.2.1.tre.cell (i := 3) rfl
  have x4 := (HI.out _ _ H5.out).2.2.1.tre.cell (i := 4) rfl
  have x5 := (HI.out _ _ H5.out).2.2.1.tre.cell (i := 5) rfl
  have x6 := (HI.out _ _ H5.out).2.2.1.tre.cell (i := 6) rfl
  go_wp2_with fail
  have hLV := leaves_ok w5 M.ta (bdL n l) (HI.out _ _ H5.out).2.2.1.tree (rr : Int)
  rw [tree_agg TVH.out M.ta, leavesO_of TVH.out hrm, HCL.out] at hLV
  have HLV := Lib.hid hLV
  clear hLV x1 x2 x3 x4 x5 x6 f0 c0 c1
  with_reducible refine HLV.out.mono ?_
  rintro e w6 ⟨_, hok, hb6⟩
  obtain ⟨v, rfl, hown, hvn⟩ := hok _ rfl
  have H6 := Lib.hid (HMO.out _ _ _ H5.out hb6)
  have HBW6 := Lib.hid (bel_then HBW5.out hb6)
  obtain ⟨N, hN⟩ : ∃ N, (compL n l u).length = N := ⟨_, rfl⟩
  have HNN := Lib.hid hN
  rw [hN] at hown
  obtain ⟨o7, k7, b7, rfl, hin, hbk⟩ := own_rowN hown HNN.out
  have hNl : N ≤ n := by rw [← hN]; exact lv_len_le _ _ _ _
  have HROW := Lib.hid hin
  have HWS : Hid (W.heap.size ≤ w5.heap.size) := HBW5.out.size
  have HB7 : Hid (0 < N → W.heap.size ≤ b7) := fun h0 => by
    have e := hin.adr h0
    rw [e] at hvn
    exact Nat.le_trans HWS.out (hvn b7 rfl)
  clear hb6 hok hown hvn hin hbk HLV H5 hN
  go_wp2_with fail
  refine (wpIn_wide (n := F)).1 ?_
  gi_loopw [34] (fun s wr => ∃ i : Nat, i ≤ N ∧ s = .int .i64 i ∧ I i wr ∧ InRow .i64 wr o7 N b7 0 (nI (compL n l u)) ∧ W.heap.size ≤ wr.heap.size) (fun s _ => N - (intOf s).toNat)
  case atStart => exact ⟨0, Nat.zero_le _, rfl, H6.out, HROW.out, HBW6.out.size⟩
  case round =>
    obtain ⟨i, hi, rfl, hii, hrow, hsz⟩ := hrel
    have HA := Lib.hid hii
    have HR := Lib.hid hrow
    have HSZ := Lib.hid hsz
    clear hii hrow hsz
    by_cases hiN : i < N
    · have ti : decide (i < N) = true := decide_eq_true hiN
      have ti1 : (i : Int) < (N : Int) := by omega
      have ti0 : (0 : Int) ≤ (i : Int) := by omega
      obtain rfl := HR.out.adr (by omega)
      have cl := HR.out.cell i hiN
      rw [nI_at (by rw [HNN.out]; exact hiN), Nat.zero_add] at cl
      obtain ⟨fn, tmps, assign, body, hy, hR⟩ := HY.out i wr (by rw [HNN.out]; exact hiN) HA.out HSZ.out
      have HRR := Lib.hid hR
      clear hR
      generalize (compL n l u).getD i 0 = x at *
      gi_wp2_with fail
      refine ⟨fun h => by simp [Fence.wide] at h, HRR.out.mono ?_⟩
      rintro e w8 ⟨rfl, hi8, hm8⟩
      have HI8 := Lib.hid hi8
      have HR8 := Lib.hid (HR.out.mod hm8 (fun h0 e => by have := HB7.out h0; omega))
      have HS8 : Hid (W.heap.size ≤ w8.heap.size) := Nat.le_trans HSZ.out hm8.size
      clear hi8 hy cl hm8 HA HR HSZ
      gi_wp2_with fail
      go_roundw
      case rel => exact ⟨i + 1, by omega, by go_num, HI8.out, HR8.out, HS8.out⟩
      case measure => simp [intOf]; omega
    · obtain rfl : N = i := by omega
      have ti : decide (N < N) = false := by simp
      have HF : Hid (I (compL n l u).length wr) := by show I _ _; rw [HNN.out]; exact HA.out
      gi_wp2_with fail
      exact ⟨rfl, _, results_none rfl _ _ _, ⟨_, rfl⟩, HF.out⟩

end Go.Proofs.YtenhbfbfkcjimaaDoor

/- minimax: Farthest. -/
namespace Go.Proofs.YtenhbfbfkcjimaaDoor
set_option linter.unusedVariables false
set_option linter.unusedSimpArgs false
open Go.RowKit Go.Shelf
attribute [local go_sem] Oper.semAt_some

theorem results_cell3 {fn : Func} {p q r : Tmp} {T1 T2 T3 : TypeId} (h : fn.results = #[.cell p T1, .cell q T2, .cell r T3]) {tmps : Array Value} {P : Program} {w : World} {a b c : Addr} {x y z : Value}
    (ha : tmps.getD p undef = .pointer (some a)) (hb : tmps.getD q undef = .pointer (some b)) (hc : tmps.getD r undef = .pointer (some c))
    (hx : (loadVar T1 a).run P w = .ok x w) (hy : (loadVar T2 b).run P w = .ok y w) (hz : (loadVar T3 c).run P w = .ok z w) :
    (results fn tmps).run P w = .ok (.tuple #[x, y, z]) w := by
  simp only [results, h]
  simp [Sem.run_bind, Result.andThen, -Array.getD_eq_getD_getElem?, ha, hb, hc, hx, hy, hz, asAddr]

structure Far where
  v : Nat
  t : Int
  ok : Bool
def farStep (n : Nat) (l : List Ed) (u : Nat) (s : Far) (x : Nat) : Far :=
  match mmV n l u x with
  | none => s
  | some d => if x ≠ u ∧ (s.ok = false ∨ s.t < d) then ⟨x, d, true⟩ else s
def farTo (n : Nat) (l : List Ed) (u i : Nat) : Far := ((compL n l u).take i).foldl (farStep n l u) ⟨0, 0, false⟩
def farL (n : Nat) (l : List Ed) (u : Nat) : Far := (compL n l u).foldl (farStep n l u) ⟨0, 0, false⟩
def farR (s : Far) : Value := .tuple #[.int .i64 (s.v : Int), .int .i64 s.t, .bool s.ok]
theorem farTo_succ {n : Nat} {l : List Ed} {u i : Nat} (h : i < (compL n l u).length) : farTo n l u (i + 1) = farStep n l u (farTo n l u i) ((compL n l u).getD i 0) := by
  unfold farTo
  rw [take_snocN h, List.foldl_append]; rfl

/-- While the component is gone over. -/
structure FaI (w : World) (M : MB) (pb ub vb tb ob cb kb L D : Nat) (u : Nat) (s : Far) (r : Loop) (W : World) : Prop where
  xp : Blk W pb 25 [.pointer (some ⟨M.f, 0, none⟩)]
  xu : Blk W ub 3 [.int .i64 (u : Int)]
  xv : Blk W vb 3 [.int .i64 (s.v : Int)]
  xt : Blk W tb 2 [.int .i64 s.t]
  xo : Blk W ob 4 [.bool s.ok]
  xc : Blk W cb 25 [.pointer (some ⟨M.f, 0, none⟩)]
  xk : Blk W kb 3 [.int .i64 (u : Int)]
  lp : W.heap[L]? = some (.loop r)
  df : W.heap[D]? = some (.deferred (some []))
  bel : Below w.heap.size w W
  n1 : w.heap.size ≤ vb ∧ w.heap.size ≤ tb ∧ w.heap.size ≤ ob ∧ w.heap.size ≤ L
  n2 : (vb ≠ pb ∧ vb ≠ ub ∧ vb ≠ cb ∧ vb ≠ kb ∧ vb ≠ tb ∧ vb ≠ ob) ∧ (tb ≠ pb ∧ tb ≠ ub ∧ tb ≠ cb ∧ tb ≠ kb ∧ tb ≠ ob) ∧ (ob ≠ pb ∧ ob ≠ ub ∧ ob ≠ cb ∧ ob ≠ kb)

theorem FaI.turn {w : World} {M : MB} {pb ub vb tb ob cb kb L D u : Nat} {s : Far} {r : Loop} {W : World} (h : FaI w M pb ub vb tb ob cb kb L D u s r W) (r' : Loop) : FaI w M pb ub vb tb ob cb kb L D u s r' (W.putObj L (.loop r')) := by
  have hm : Mod (fun k => k = L) W (W.putObj L (.loop r')) := (Mod.refl _ _).putObj _ _ (fun _ => rfl)
  have hl := (Array.getElem?_eq_some_iff.1 h.lp).1
  have hdl : D ≠ L := fun e => by have h1 := h.df; rw [e, h.lp] at h1; cases h1
  have h4 := h.n1.2.2.2
  refine ⟨h.xp.mod hm (Blk.ne_obj h.xp h.lp rfl), h.xu.mod hm (Blk.ne_obj h.xu h.lp rfl), h.xv.mod hm (Blk.ne_obj h.xv h.lp rfl), h.xt.mod hm (Blk.ne_obj h.xt h.lp rfl), h.xo.mod hm (Blk.ne_obj h.xo h.lp rfl), h.xc.mod hm (Blk.ne_obj h.xc h.lp rfl), h.xk.mod hm (Blk.ne_obj h.xk h.lp rfl), ?_, ?_, bel_mod h.bel hm (fun x e => by rw [e]; exact h4), h.n1, h.n2⟩
  · simp [World.putObj, hl]
  · rw [hm.block D (Array.getElem?_eq_some_iff.1 h.df).1 hdl]; exact h.df

theorem FaI.below {w : World} {M : MB} {pb ub vb tb ob cb kb L D u : Nat} {s : Far} {r : Loop} {W W' : World} (h : FaI w M pb ub vb tb ob cb kb L D u s r W) (hb : Below W.heap.size W W') : FaI w M pb ub vb tb ob cb kb L D u s r W' :=
  ⟨h.xp.below hb h.xp.lt, h.xu.below hb h.xu.lt, h.xv.below hb h.xv.lt, h.xt.below hb h.xt.lt, h.xo.below hb h.xo.lt, h.xc.below hb h.xc.lt, h.xk.below hb h.xk.lt,
    (hb.block L (Array.getElem?_eq_some_iff.1 h.lp).1).trans h.lp, (hb.block D (Array.getElem?_eq_some_iff.1 h.df).1).trans h.df, bel_then h.bel hb, h.n1, h.n2⟩

theorem FaI.set {w : World} {M : MB} {pb ub vb tb ob cb kb L D u x : Nat} {s : Far} {d : Int} {k : Bool} {r : Loop} {W : World} (h : FaI w M pb ub vb tb ob cb kb L D u s r W) :
    FaI w M pb ub vb tb ob cb kb L D u ⟨x, d, k⟩ r (((W.setCell ⟨vb, 0, none⟩ (.int .i64 (x : Int))).setCell ⟨tb, 0, none⟩ (.int .i64 d)).setCell ⟨ob, 0, none⟩ (.bool k)) := by
  obtain ⟨⟨a1, a2, a3, a4, a5, a6⟩, ⟨b1, b2, b3, b4, b5⟩, c1, c2, c3, c4⟩ := h.n2
  have hm : Mod (fun k => k = vb ∨ k = tb ∨ k = ob) W (((W.setCell ⟨vb, 0, none⟩ (.int .i64 (x : Int))).setCell ⟨tb, 0, none⟩ (.int .i64 d)).setCell ⟨ob, 0, none⟩ (.bool k)) :=
    (((Mod.refl _ W).setCell ⟨vb, 0, none⟩ (fun _ => .inl rfl) _).setCell ⟨tb, 0, none⟩ (fun _ => .inr (.inl rfl)) _).setCell ⟨ob, 0, none⟩ (fun _ => .inr (.inr rfl)) _
  have lv := Blk.ne_obj h.xv h.lp rfl
  have lt := Blk.ne_obj h.xt h.lp rfl
  have lo := Blk.ne_obj h.xo h.lp rfl
  have dv := Blk.ne_obj h.xv h.df rfl
  have dt := Blk.ne_obj h.xt h.df rfl
  have dd := Blk.ne_obj h.xo h.df rfl
  have three : ∀ {z : Nat}, vb ≠ z → tb ≠ z → ob ≠ z → ¬ (z = vb ∨ z = tb ∨ z = ob) := fun q1 q2 q3 e => by
    rcases e with e | e | e
    · exact q1 e.symm
    · exact q2 e.symm
    · exact q3 e.symm
  refine ⟨h.xp.mod hm (three a1 b1 c1), h.xu.mod hm (three a2 b2 c2), ?_, ?_, ?_, h.xc.mod hm (three a3 b3 c3), h.xk.mod hm (three a4 b4 c4), ?_, ?_, bel_mod h.bel hm (fun y e => by
    rcases e with e | e | e
    · rw [e]; exact h.n1.1
    · rw [e]; exact h.n1.2.1
    · rw [e]; exact h.n1.2.2.1), h.n1, h.n2⟩
  · exact ((h.xv.set 0 _).other _ _ (by show vb ≠ tb; exact a5)).other _ _ (by show vb ≠ ob; exact a6)
  · exact ((h.xt.other _ _ (by show tb ≠ vb; exact fun e => a5 e.symm)).set 0 _).other _ _ (by show tb ≠ ob; exact b5)
  · exact ((h.xo.other _ _ (by show ob ≠ vb; exact fun e => a6 e.symm)).other _ _ (by show ob ≠ tb; exact fun e => b5 e.symm)).set 0 _
  · rw [hm.block L (Array.getElem?_eq_some_iff.1 h.lp).1 (three lv lt lo)]; exact h.lp
  · rw [hm.block D (Array.getElem?_eq_some_iff.1 h.df).1 (three dv dt dd)]; exact h.df

set_option maxHeartbeats 16000000 in
set_option maxRecDepth 100000 in
theorem farthest_ok (w : World) (M : MB) (n : Nat) (l : List Ed) (hM : MObj w M n l) (hg : GOk n l) (hT : Tab64 w) (u : Nat) (hu : u < n) :
    Calls Tryd.prog 27 #[.pointer (some ⟨M.f, 0, none⟩), .int .i64 u] w (RetB (farR (farL n l u)) w) := by
  refine (callsIn_wide (n := 3)).1 ?_
  have HM := Lib.hid hM
  have HG := Lib.hid hg
  have HT := Lib.hid hT
  clear hM hg hT
  refine callsIn_of_wp_marks Tryd.func27 rfl trivial ?_ rfl
  simp only [Tryd.ntmps27, List.size_toArray, List.length_cons, List.length_nil, Nat.reduceAdd, Nat.reduceSub, Array.replicate_succ, Array.replicate_zero, List.push_toArray, List.append_toArray, List.nil_append, List.cons_append]
  refine wpIn_wide.2 ?_
  go_wp2_with fail
  obtain ⟨W1, hW1⟩ : ∃ W1, ((((w.alloc (.cells #[.pointer (some ⟨M.f, 0, none⟩)] 25)).alloc (.cells #[.int .i64 (u : Int)] 3)).alloc (.cells #[.int .i64 0] 3)).alloc (.cells #[.int .i64 0] 2)).alloc (.cells #[.bool false] 4) = W1 := ⟨_, rfl⟩
  have HW1 : Hid (Below w.heap.size w W1 ∧ W1.heap.size = w.heap.size + 5 ∧ Blk W1 w.heap.size 25 [.pointer (some ⟨M.f, 0, none⟩)] ∧ Blk W1 (w.heap.size + 1) 3 [.int .i64 (u : Int)] ∧ Blk W1 (w.heap.size + 1 + 1) 3 [.int .i64 0] ∧ Blk W1 (w.heap.size + 1 + 1 + 1) 2 [.int .i64 0] ∧ Blk W1 (w.heap.size + 1 + 1 + 1 + 1) 4 [.bool false]) := by
    rw [← hW1]
    refine ⟨((((bel_alloc w _).alloc (by simp) _).alloc (by simp; omega) _).alloc (by simp; omega) _).alloc (by simp; omega) _, by simp, ((((Blk.new _ _ [_]).alloc _).alloc _).alloc _).alloc _, (((Blk.new' _ _ [_] (by simp)).alloc _).alloc _).alloc _, ((Blk.new' _ _ [_] (by simp)).alloc _).alloc _, (Blk.new' _ _ [_] (by simp)).alloc _, Blk.new' _ _ [_] (by simp)⟩
  rw [hW1]
  clear hW1
  with_reducible refine (component_any (.pointer (some ⟨M.f, 0, none⟩)) (u : Int) W1 ⟨_, rfl⟩).mono ?_
  rintro e w3 ⟨rfl, rfl⟩
  go_wp2_with fail
  refine (wpIn_wide (n := 3)).1 ?_
  have HINV : Hid (∀ r : Loop, FaI w M w.heap.size (w.heap.size + 1) (w.heap.size + 1 + 1) (w.heap.size + 1 + 1 + 1) (w.heap.size + 1 + 1 + 1 + 1) W1.heap.size (W1.heap.size + 1) (W1.heap.size + 1 + 1 + 1) (W1.heap.size + 1 + 1) u ⟨0, 0, false⟩ r ((((W1.alloc (.cells #[.pointer (some ⟨M.f, 0, none⟩)] 25)).alloc (.cells #[.int .i64 (u : Int)] 3)).alloc (.deferred (some []))).alloc (.loop r))) := by
    intro r
    obtain ⟨b1, hs, x1, x2, x3, x4, x5⟩ := HW1.out
    have hbb : Below W1.heap.size W1 ((((W1.alloc (.cells #[.pointer (some ⟨M.f, 0, none⟩)] 25)).alloc (.cells #[.int .i64 (u : Int)] 3)).alloc (.deferred (some []))).alloc (.loop r)) := (((bel_alloc W1 _).alloc (by simp) _).alloc (by simp; omega) _).alloc (by simp; omega) _
    refine ⟨x1.below hbb x1.lt, x2.below hbb x2.lt, x3.below hbb x3.lt, x4.below hbb x4.lt, x5.below hbb x5.lt, (((Blk.new W1 _ [_]).alloc _).alloc _).alloc _, ((Blk.new' _ _ [_] (by simp)).alloc _).alloc _, ?_, ?_, bel_then b1 hbb, ⟨by omega, by omega, by omega, by omega⟩, ⟨by omega, by omega, by omega, by omega, by omega, by omega⟩, ⟨by omega, by omega, by omega, by omega, by omega⟩, by omega, by omega, by omega, by omega⟩
    · have := World.alloc_heap_new (((W1.alloc (.cells #[.pointer (some ⟨M.f, 0, none⟩)] 25)).alloc (.cells #[.int .i64 (u : Int)] 3)).alloc (.deferred (some []))) (.loop r)
      simpa using this
    · rw [Below.heap_alloc _ _ _ (by simp)]
      have := World.alloc_heap_new ((W1.alloc (.cells #[.pointer (some ⟨M.f, 0, none⟩)] 25)).alloc (.cells #[.int .i64 (u : Int)] 3)) (.deferred (some []))
      simpa using this
  have HSZE := Lib.hid HW1.out.2.1
  clear HW1
  refine wp_range (gf := 56) (lb := #[.pointer (some ⟨W1.heap.size, 0, none⟩), .pointer (some ⟨W1.heap.size + 1, 0, none⟩)]) rfl (enters_of Tryd.func56 (by kernel_rfl) rfl)
    (fun W3 => ∃ r, FaI w M w.heap.size (w.heap.size + 1) (w.heap.size + 1 + 1) (w.heap.size + 1 + 1 + 1) (w.heap.size + 1 + 1 + 1 + 1) W1.heap.size (W1.heap.size + 1) (W1.heap.size + 1 + 1 + 1) (W1.heap.size + 1 + 1) u (farL n l u) r W3) ?call ?done
  case call =>
    intro fn
    simp only [World.size_alloc, List.append_toArray, List.cons_append, List.nil_append]
    refine CallsIn.mono (comp1_in 2 W1.heap.size (W1.heap.size + 1) M n l HG.out u hu (W1.heap.size + 1 + 1 + 1) (fun i X => FaI w M w.heap.size (w.heap.size + 1) (w.heap.size + 1 + 1) (w.heap.size + 1 + 1 + 1) (w.heap.size + 1 + 1 + 1 + 1) W1.heap.size (W1.heap.size + 1) (W1.heap.size + 1 + 1 + 1) (W1.heap.size + 1 + 1) u (farTo n l u i) _ X) _ ?_ ?_ (HINV.out _) ?_) ?_
    · intro i X hX
      exact ⟨hX.xc.cell (i := 0) rfl, hX.xk.cell (i := 0) rfl, HM.out.below hX.bel, HT.out.below hX.bel⟩
    · intro i X X' hX hb
      exact hX.below hb
    · intro i X hi hX hXs
      have HFS := Lib.hid (farTo_succ (n := n) (l := l) (u := u) hi)
      generalize (compL n l u).getD i 0 = x at HFS ⊢
      refine yieldAt_of hX.lp rfl ?a1 ?asg ?bd
      case asg =>
        intro K hK
        gi_wp2
        exact hK
      case bd =>
        intro r rb Wb hr hWb
        rw [hr] at hX ⊢
        have hX2 := hX.turn rb
        have hmX : Mod (fun k => k = W1.heap.size + 1 + 1 + 1) X Wb := by rw [hWb]; exact (Mod.refl _ _).putObj _ _ (fun _ => rfl)
        rw [← hWb] at hX2
        clear hX hWb hr
        have HX := Lib.hid hX2
        have HMX := Lib.hid hmX
        have HTB := Lib.hid (HT.out.below hX2.bel)
        have HMB := Lib.hid (HM.out.below hX2.bel)
        clear hX2 hmX
        have HSZ : Hid (w.heap.size + 1 + 1 + 1 + 1 < W1.heap.size) := by show _ < _; have := HSZE.out; omega
        obtain ⟨s, hs⟩ : ∃ s, farTo n l u i = s := ⟨_, rfl⟩
        obtain ⟨s', hs'⟩ : ∃ s, farTo n l u (i + 1) = s := ⟨_, rfl⟩
        have HS' := Lib.hid hs'
        rw [hs, hs'] at HFS
        rw [hs] at HX
        clear hs hs'
        have cp := HX.out.xp.cell (i := 0) rfl
        have cu := HX.out.xu.cell (i := 0) rfl
        gi_wp2_with fail
        refine ⟨trivial, CallsIn.inRound _ (CallsIn.mono (callsIn_wide.2 (minimax_ok Wb M n l HMB.out HG.out HTB.out u x)) ?_)⟩
        rintro e w5 ⟨rfl, hb5⟩
        have HX5 := Lib.hid (HX.out.below hb5)
        have HM5 : Hid (Mod (fun k => k < W1.heap.size + 1 + 1 + 1 + 1) X w5) := (HMX.out.mono (G := fun k => k < W1.heap.size + 1 + 1 + 1 + 1) (fun y _ e => by omega)).trans (Mod.of_below (F := fun _ => False) hb5) (fun _ _ h => h.elim)
        have HFN : Hid (∀ W6 : World, Mod (fun k => k < W1.heap.size + 1 + 1 + 1 + 1) X W6 → FaI w M w.heap.size (w.heap.size + 1) (w.heap.size + 1 + 1) (w.heap.size + 1 + 1 + 1) (w.heap.size + 1 + 1 + 1 + 1) W1.heap.size (W1.heap.size + 1) (W1.heap.size + 1 + 1 + 1) (W1.heap.size + 1 + 1) u s' rb W6 → W6.heap[W1.heap.size + 1 + 1 + 1]? = some (.loop rb) ∧ FaI w M w.heap.size (w.heap.size + 1) (w.heap.size + 1 + 1) (w.heap.size + 1 + 1 + 1) (w.heap.size + 1 + 1 + 1 + 1) W1.heap.size (W1.heap.size + 1) (W1.heap.size + 1 + 1 + 1) (W1.heap.size + 1 + 1) u s' r (W6.putObj (W1.heap.size + 1 + 1 + 1) (.loop r)) ∧ Mod (fun k => k < W1.heap.size + 1 + 1 + 1 + 1) X (W6.putObj (W1.heap.size + 1 + 1 + 1) (.loop r))) := fun W6 hm hf =>
          ⟨hf.lp, hf.turn r, hm.putObj _ _ (fun _ => by omega)⟩
        clear hb5 HX HMB HTB HMX cp cu
        have cp := HX5.out.xp.cell (i := 0) rfl
        have cu := HX5.out.xu.cell (i := 0) rfl
        have cv := HX5.out.xv.cell (i := 0) rfl
        have ct := HX5.out.xt.cell (i := 0) rfl
        have co := HX5.out.xo.cell (i := 0) rfl
        have fv := HX5.out.xv.free 0
        have ft := HX5.out.xt.free 0
        have fo := HX5.out.xo.free 0
        obtain ⟨sv, st, so⟩ := s
        have stay : s' = ⟨sv, st, so⟩ → Hid (w5.heap[W1.heap.size + 1 + 1 + 1]? = some (.loop rb) ∧ FaI w M w.heap.size (w.heap.size + 1) (w.heap.size + 1 + 1) (w.heap.size + 1 + 1 + 1) (w.heap.size + 1 + 1 + 1 + 1) W1.heap.size (W1.heap.size + 1) (W1.heap.size + 1 + 1 + 1) (W1.heap.size + 1 + 1) u s' r (w5.putObj (W1.heap.size + 1 + 1 + 1) (.loop r)) ∧ Mod (fun k => k < W1.heap.size + 1 + 1 + 1 + 1) X (w5.putObj (W1.heap.size + 1 + 1 + 1) (.loop r))) := fun e => HFN.out w5 HM5.out (by rw [e]; exact HX5.out)
        unfold intR
        cases hmm : mmV n l (u : Int) (x : Int) with
        | none =>
          have HST := stay (by rw [HFS.out]; unfold farStep; rw [hmm])
          clear stay hmm HFN HX5 HM5
          simp only [Option.getD_none, Option.isSome_none]
          gi_wp2_with fail
          exact ⟨HST.out.1, rfl, by rw [HS'.out]; exact HST.out.2.1, HST.out.2.2⟩
        | some d =>
          have HFD : Hid (s' = if x ≠ u ∧ (so = false ∨ st < d) then ⟨x, d, true⟩ else ⟨sv, st, so⟩) := by
            show _ = _
            rw [HFS.out]; unfold farStep; rw [hmm]
          clear hmm
          simp only [Option.getD_some, Option.isSome_some]
          by_cases hxu : x = u
          · have t1 : ((x : Int) != (u : Int)) = false := by simp [hxu]
            have HST := stay (by rw [HFD.out, if_neg (fun h => h.1 hxu)])
            clear stay hxu HFN HX5 HM5
            gi_wp2_with fail
            exact ⟨HST.out.1, rfl, by rw [HS'.out]; exact HST.out.2.1, HST.out.2.2⟩
          · have t1 : ((x : Int) != (u : Int)) = true := by simp; omega
            have HX7 : Hid (so = false ∨ st < d → FaI w M w.heap.size (w.heap.size + 1) (w.heap.size + 1 + 1) (w.heap.size + 1 + 1 + 1) (w.heap.size + 1 + 1 + 1 + 1) W1.heap.size (W1.heap.size + 1) (W1.heap.size + 1 + 1 + 1) (W1.heap.size + 1 + 1) u s' rb (((w5.setCell ⟨w.heap.size + 1 + 1, 0, none⟩ (.int .i64 (x : Int))).setCell ⟨w.heap.size + 1 + 1 + 1, 0, none⟩ (.int .i64 d)).setCell ⟨w.heap.size + 1 + 1 + 1 + 1, 0, none⟩ (.bool true))) := fun h => by
              rw [HFD.out, if_pos ⟨hxu, h⟩]
              exact HX5.out.set
            have HM7 : Hid (Mod (fun k => k < W1.heap.size + 1 + 1 + 1 + 1) X (((w5.setCell ⟨w.heap.size + 1 + 1, 0, none⟩ (.int .i64 (x : Int))).setCell ⟨w.heap.size + 1 + 1 + 1, 0, none⟩ (.int .i64 d)).setCell ⟨w.heap.size + 1 + 1 + 1 + 1, 0, none⟩ (.bool true))) :=
              ((HM5.out.setCell _ (fun _ => by show w.heap.size + 1 + 1 < _; have := HSZ.out; omega) _).setCell _ (fun _ => by show w.heap.size + 1 + 1 + 1 < _; have := HSZ.out; omega) _).setCell _ (fun _ => by show w.heap.size + 1 + 1 + 1 + 1 < _; have := HSZ.out; omega) _
            cases so with
            | false =>
              have HST := Lib.hid (HFN.out _ HM7.out (HX7.out (.inl rfl)))
              clear stay hxu HFN HX5 HM5 HX7 HM7
              gi_wp2_with fail
              exact ⟨HST.out.1, rfl, by rw [HS'.out]; exact HST.out.2.1, HST.out.2.2⟩
            | true =>
              by_cases hd : st < d
              · have t2 : decide (st < d) = true := decide_eq_true hd
                have HST := Lib.hid (HFN.out _ HM7.out (HX7.out (.inr hd)))
                clear stay hxu HFN HX5 HM5 HX7 HM7 hd
                gi_wp2_with fail
                exact ⟨HST.out.1, rfl, by rw [HS'.out]; exact HST.out.2.1, HST.out.2.2⟩
              · have t2 : decide (st < d) = false := decide_eq_false hd
                have HST := stay (by rw [HFD.out, if_neg (fun h => by rcases h.2 with h | h; cases h; exact hd h)])
                clear stay hxu HFN HX5 HM5 HX7 HM7 hd
                gi_wp2_with fail
                exact ⟨HST.out.1, rfl, by rw [HS'.out]; exact HST.out.2.1, HST.out.2.2⟩
    · rintro e W2 ⟨hv, hi⟩
      have e1 : farTo n l u (compL n l u).length = farL n l u := by unfold farTo farL; rw [List.take_length]
      rw [e1] at hi
      exact ⟨hv, hi.lp, hi.df, _, hi⟩
  case done =>
    rintro W2 r' ⟨r, hi⟩
    simp only [World.size_alloc]
    have hi3 := hi.turn r'
    generalize World.putObj W2 _ _ = W3 at hi3 ⊢
    clear hi
    have HI := Lib.hid hi3
    clear hi3
    obtain ⟨⟨a1, a2, a3, a4, a5, a6⟩, ⟨b1, b2, b3, b4, b5⟩, c1, c2, c3, c4⟩ := HI.out.n2
    have cv := HI.out.xv.cell (i := 0) rfl
    have ct := HI.out.xt.cell (i := 0) rfl
    have co := HI.out.xo.cell (i := 0) rfl
    have fv := HI.out.xv.free 0
    have ft := HI.out.xt.free 0
    have fo := HI.out.xo.free 0
    clear a1 a2 a3 a4 b1 b2 b3 b4 c1 c2 c3 c4
    go_wp2_with fail
    go_region
    go_wp2_with fail
    have HS5 := Lib.hid ((HI.out.set (x := (farL n l u).v) (d := (farL n l u).t) (k := (farL n l u).ok)).below ((Below.refl _ _).drew))
    clear HI cv ct co fv ft fo
    generalize (((W3.setCell ⟨w.heap.size + 1 + 1, 0, none⟩ (.int .i64 ((farL n l u).v : Int))).setCell ⟨w.heap.size + 1 + 1 + 1, 0, none⟩ (.int .i64 (farL n l u).t)).setCell ⟨w.heap.size + 1 + 1 + 1 + 1, 0, none⟩ (.bool (farL n l u).ok)).drew = W5 at *
    refine ⟨by simp, .inl ⟨_, _, rfl, run_takeDeferred HS5.out.df, ?_⟩⟩
    have hm : Mod (fun x => x = W1.heap.size + 1 + 1) W5 (W5.putObj (W1.heap.size + 1 + 1) (.deferred none)) := (Mod.refl _ _).putObj _ _ (fun _ => rfl)
    have cv := (HS5.out.xv.mod hm (Blk.ne_obj HS5.out.xv HS5.out.df rfl)).cell (i := 0) rfl
    have ct := (HS5.out.xt.mod hm (Blk.ne_obj HS5.out.xt HS5.out.df rfl)).cell (i := 0) rfl
    have co := (HS5.out.xo.mod hm (Blk.ne_obj HS5.out.xo HS5.out.df rfl)).cell (i := 0) rfl
    have hz := HSZE.out
    refine ⟨_, results_cell3 (x := .int .i64 ((farL n l u).v : Int)) (y := .int .i64 (farL n l u).t) (z := .bool (farL n l u).ok) rfl rfl rfl rfl (by simp [go_sem, cv]) (by simp [go_sem, ct]) (by simp [go_sem, co]), ?_⟩
    exact ⟨rfl, bel_mod HS5.out.bel hm (fun x e => by omega)⟩

end Go.Proofs.YtenhbfbfkcjimaaDoor
