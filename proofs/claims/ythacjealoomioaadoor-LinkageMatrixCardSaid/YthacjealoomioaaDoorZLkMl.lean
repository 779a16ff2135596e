/- The walk of LinkageMatrix. -/
import Derived.Test.YthacjealoomioaaDoorZLkMt
import Derived.Test.YthacjealoomioaaDoorZLkMr
import Derived.Test.YthacjealoomioaaDoorZMgT
import Derived.Test.YthacjealoomioaaDoorZMgO
namespace Go.Proofs.YthacjealoomioaaDoor.Lk
set_option linter.unusedVariables false
set_option linter.unusedSimpArgs false
open Go.RowKit

set_option maxHeartbeats 16000000 in
set_option maxRecDepth 100000 in
theorem matrix_law (w : World) (hT : Tab64 w) (n : Int) (ao : Option Addr) (m cap b off : Nat) (l : List Ed) (he : ERow w ao m b off l) (hm : m ≤ 9223372036854775807) (hnil : ao = none → cap = 0) (hn64 : -9223372036854775808 ≤ n ∧ n ≤ 9223372036854775807) :
    Calls Tryd.prog 3 #[.int .i64 n, .slice ao m cap] w (RetB (.bool true) w) := by
  have HE := Lib.hid he
  have HNIL := Lib.hid hnil
  have H64 := Lib.hid hn64
  have HT := Lib.hid hT
  clear he hnil hn64 hT
  obtain ⟨sb, hsb⟩ : ∃ q, ((decide (20 < n) && decide (n ≤ 128)) || decide (100 < (m : Int))) = q := ⟨_, rfl⟩
  have HSB := Lib.hid hsb
  clear hsb
  go_enter Tryd.func3, Tryd.ntmps3
  go_upto_region 1 with fail
  go_cut [19] (fun s wx => s = .bool sb ∧ w = wx)
  case first =>
    have hq := HSB.out
    clear HSB
    by_cases h1 : 20 < n
    · have t1 : decide (20 < n) = true := decide_eq_true h1
      rw [t1, Bool.true_and] at hq
      by_cases h2 : n ≤ 128
      · have t2 : decide (n ≤ 128) = true := decide_eq_true h2
        rw [t2, Bool.true_or] at hq
        clear h1 h2
        subst hq
        go_wp2_with fail
        go_meet
        exact ⟨rfl, rfl⟩
      · have t2 : decide (n ≤ 128) = false := decide_eq_false h2
        rw [t2, Bool.false_or] at hq
        clear h1 h2
        obtain ⟨q, hq2⟩ : ∃ q, decide (100 < (m : Int)) = q := ⟨_, rfl⟩
        rw [hq2] at hq
        subst hq
        go_wp2_with fail
        go_meet
        exact ⟨rfl, rfl⟩
    · have t1 : decide (20 < n) = false := decide_eq_false h1
      rw [t1, Bool.false_and, Bool.false_or] at hq
      clear h1
      obtain ⟨q, hq2⟩ : ∃ q, decide (100 < (m : Int)) = q := ⟨_, rfl⟩
      rw [hq2] at hq
      subst hq
      go_wp2_with fail
      go_meet
      exact ⟨rfl, rfl⟩
  case rest =>
    obtain ⟨rfl, rfl⟩ := hcut
    cases sb with
    | true =>
      clear HSB
      go_wp2_with fail
      with_reducible refine (works_ok w).mono ?_
      rintro e w2 ⟨rfl, hb⟩
      have HB := Lib.hid hb
      clear hb
      go_wp2_with fail
      go_ret
      exact ⟨rfl, HB.out⟩
    | false =>
      have HNS : Hid (matC n l = 0 → n.toNat ≤ 20) := fun h => by
        have hq := HSB.out
        rw [Bool.or_eq_false_iff, Bool.and_eq_false_iff] at hq
        have h3 : ¬ 128 < n := fun c => by rw [matC_big c] at h; cases h
        rcases hq.1 with a | a
        · have := of_decide_eq_false a; omega
        · have := of_decide_eq_false a; omega
      clear HSB
      go_wp2_with fail
      with_reducible refine (matrix_ok w HT.out n ao m cap b off l HE.out hm HNIL.out H64.out).mono ?_
      rintro e w1 ⟨hbad, hok, hb⟩
      have HB1 := Lib.hid hb
      have HT1 := Lib.hid (HT.out.below hb)
      have HE1 := Lib.hid (HE.out.below hb)
      clear hb HT HE
      by_cases h0 : matC n l = 0
      · obtain ⟨a1, c1, b1, rfl, hr1⟩ := hok h0
        have HR1 := Lib.hid hr1
        have H0 := Lib.hid h0
        have HN := Lib.hid (HNS.out h0)
        clear hbad hok h0 hr1 HNS
        obtain ⟨nn, HNN⟩ : ∃ q, Hid (n.toNat * n.toNat = q) := ⟨_, rfl⟩
        have HLE : Hid (nn ≤ 1000000000) := by have := Nat.mul_le_mul HN.out HN.out; rw [HNN.out] at this; exact (by omega : nn ≤ 1000000000)
        rw [HNN.out] at HR1 ⊢
        go_wp2_with fail
        with_reducible refine (rmatrix_ok w1 n ao m cap b off l HE1.out hm H64.out).mono ?_
        rintro e w2 ⟨hbad, hok, hb⟩
        obtain ⟨a2, c2, b2, rfl, hr2⟩ := hok H0.out
        have HB2 := Lib.hid (bel_then HB1.out hb)
        have HR2 := Lib.hid hr2
        have HR12 := Lib.hid (HR1.out.below hb)
        clear hbad hok hb hr2 HE1 H0 HR1 HT1
        rw [HNN.out] at HR2 ⊢
        go_wp2_with fail
        with_reducible refine (equal_ok w2 a1 a2 nn c1 c2 b1 b2 0 0 _ HR12.out HR2.out HLE.out).mono ?_
        rintro e w3 ⟨rfl, hb⟩
        have HB3 := Lib.hid (bel_then HB2.out hb)
        clear hb
        go_wp2_with fail
        with_reducible refine (works_ok w3).mono ?_
        rintro e w4 ⟨rfl, hb⟩
        have HB4 := Lib.hid (bel_then HB3.out hb)
        clear hb
        go_wp2_with fail
        go_ret
        exact ⟨rfl, HB4.out⟩
      · obtain rfl := hbad h0
        have HR := Lib.hid (rmatrix_ok w1 n ao m cap b off l HE1.out hm H64.out)
        have HBAD : Hid (∀ e w', MtPost w1 n l e w' → e = .returned (.tuple #[.slice none 0 0, .int .i64 (matC n l)]) ∧ Below w1.heap.size w1 w') := fun e w' h => ⟨h.bad h0, h.bel⟩
        clear hbad hok h0 HE1 HNS
        generalize matC n l = z at *
        have t0 : (z == z) = true := by simp
        go_wp2_with fail
        with_reducible refine HR.out.mono ?_
        intro e w2 hp
        obtain ⟨rfl, hb⟩ := HBAD.out _ _ hp
        have HB2 := Lib.hid (bel_then HB1.out hb)
        clear hp hb HR HBAD
        go_wp2_with fail
        with_reducible refine (equal_ok w2 none none 0 0 0 0 0 0 0 [] ?_ ?_ (by omega)).mono ?_
        · exact ⟨rfl, fun h => absurd h (by omega), fun i hi => absurd hi (by omega)⟩
        · exact ⟨rfl, fun h => absurd h (by omega), fun i hi => absurd hi (by omega)⟩
        rintro e w3 ⟨rfl, hb⟩
        have HB3 := Lib.hid (bel_then HB2.out hb)
        clear hb
        go_wp2_with fail
        with_reducible refine (works_ok w3).mono ?_
        rintro e w4 ⟨rfl, hb⟩
        have HB4 := Lib.hid (bel_then HB3.out hb)
        clear hb
        go_wp2_with fail
        go_ret
        exact ⟨rfl, HB4.out⟩

end Go.Proofs.YthacjealoomioaaDoor.Lk
