/- ExpiryEnds: the walk. -/
import Derived.Test.YtebclbpibafkdaaExpM
import Derived.WalkSmall
namespace Go.Proofs.Ytebclbpibafkdaa
set_option linter.unusedVariables false
set_option linter.unusedSimpArgs false
open Go.RowKit

theorem and_one_i64 (E : Int) : bits BinOp.and IntKind.i64 E 1 = E % 2 := by
  have h : (BitVec.ofInt 64 E &&& BitVec.ofInt 64 1).toNat = (E % 2).toNat := by
    rw [BitVec.toNat_and, BitVec.toNat_ofInt, BitVec.toNat_ofInt]
    have : ((1 : Int) % ((2 ^ 64 : Nat) : Int)).toNat = 1 := by decide
    rw [this, Nat.and_one_is_mod]
    omega
  change IntKind.i64.wrap ((BitVec.ofInt 64 E &&& BitVec.ofInt 64 1).toNat : Int) = E % 2
  rw [h]
  rcases (by omega : E % 2 = 0 ∨ E % 2 = 1) with e | e <;> rw [e] <;> decide

theorem i64_of {a : Int} (h : (Lit.int .i64 a).wf = true) : I64 a := by
  simp [Lit.wf, IntKind.min, IntKind.max, IntKind.signed, IntKind.bits] at h
  exact ⟨by omega, by omega⟩

attribute [local go_sem] and_one_i64

set_option maxHeartbeats 4000000 in
set_option maxRecDepth 100000 in
theorem ends_ok (a n : Int) (w : World) (ha : I64 a) (hn : I64 n) :
    Calls Try.prog 5 #[.int .i64 a, .int .i64 n] w (RetB (.bool true) w) := by
  have HZ : Hid (InRow .i64 (w.alloc (.cells #[.int .i64 a] 2)) (some ⟨w.heap.size, 0, none⟩) 1 w.heap.size 0 [a]) := by
    refine ⟨rfl, fun _ => rfl, fun i hi => ?_⟩
    obtain rfl : i = 0 := by omega
    exact (Blk.new w 2 [.int .i64 a]).cell (i := 0) rfl
  have HB0 := Lib.hid ((Below.refl w.heap.size w).alloc (Nat.le_refl _) (.cells #[.int .i64 a] 2))
  obtain ⟨a1, a2⟩ := ha
  obtain ⟨b1, b2⟩ := hn
  go_enter Try.func5, Try.ntmps5
  go_wp2_with fail
  generalize World.alloc w _ = W at HZ HB0 ⊢
  with_reducible refine (filled35 _ 1 1 _ 0 [a] false W HZ.out (by omega)).mono ?_
  rintro e w1 ⟨s, q, g, hf, rfl⟩
  have F := Lib.hid hf
  have FB := Lib.hid (HB0.out.trans (hf.bel.mono HB0.out.size))
  clear hf HZ HB0
  go_wp2_with fail
  by_cases hfit : I64 (a - n)
  · have hleft := eleft_some w1 s 300 _ q g F.out.obj 0 n (by omega) a (by simp [pairs, sortE, ins]) (a - n) 0 (fun W => sub_fits a n W ⟨a1, a2⟩ ⟨b1, b2⟩ hfit) (fun h => absurd rfl h)
    refine hleft.mono ?_
    rintro e w2 ⟨rfl, hb2⟩
    have FB2 := Lib.hid (FB.out.trans (hb2.mono FB.out.size))
    clear hleft hb2 F FB
    unfold I64 at hfit
    by_cases h1 : a / 2 - n / 2 < 4611686018427387904
    · by_cases h2 : -4611686018427387904 < a / 2 - n / 2
      · have t1 : decide (a / 2 - n / 2 < 4611686018427387904) = true := by simp; omega
        have t2 : decide (-4611686018427387904 < a / 2 - n / 2) = true := by simp; omega
        have t3 : ((a / 2 - n / 2) * 2 + (a % 2 - n % 2)) = a - n := by omega
        go_wp2_with fail
        with_reducible refine (works35 _).mono ?_
        rintro e w3 ⟨rfl, hb3⟩
        go_wp2_with fail
        go_ret
        exact ⟨rfl, FB2.out.trans (hb3.mono FB2.out.size)⟩
      · obtain h3 : a / 2 - n / 2 = -4611686018427387904 := by omega
        have t4 : decide (0 ≤ a % 2 - n % 2) = true := by simp; omega
        have t3 : (-9223372036854775808 + (a % 2 - n % 2)) = a - n := by omega
        go_wp2_with fail
        with_reducible refine (works35 _).mono ?_
        rintro e w3 ⟨rfl, hb3⟩
        go_wp2_with fail
        go_ret
        exact ⟨rfl, FB2.out.trans (hb3.mono FB2.out.size)⟩
    · obtain h3 : a / 2 - n / 2 = 4611686018427387904 := by omega
      have t4 : decide (a % 2 - n % 2 < 0) = true := by simp; omega
      have t3 : wrap64 (wrap64 9223372036854775808 + (a % 2 - n % 2)) = a - n := by unfold wrap64; omega
      go_wp2_with fail
      with_reducible refine (works35 _).mono ?_
      rintro e w3 ⟨rfl, hb3⟩
      go_wp2_with fail
      go_ret
      exact ⟨rfl, FB2.out.trans (hb3.mono FB2.out.size)⟩
  · have hleft := eleft_some w1 s 300 _ q g F.out.obj 0 n (by omega) a (by simp [pairs, sortE, ins]) 0 7 (fun W => sub_over a n W ⟨a1, a2⟩ ⟨b1, b2⟩ hfit) (fun _ => rfl)
    refine hleft.mono ?_
    rintro e w2 ⟨rfl, hb2⟩
    have FB2 := Lib.hid (FB.out.trans (hb2.mono FB.out.size))
    clear hleft hb2 F FB
    unfold I64 at hfit
    by_cases h1 : a / 2 - n / 2 < 4611686018427387904
    · have t2 : decide (-4611686018427387904 < a / 2 - n / 2) = false := by simp; omega
      have t5 : (a / 2 - n / 2 == 4611686018427387904) = false := by simp; omega
      by_cases h3 : a / 2 - n / 2 = -4611686018427387904
      · have t4 : decide (0 ≤ a % 2 - n % 2) = false := by simp; omega
        go_wp2_with fail
        with_reducible refine (works35 _).mono ?_
        rintro e w3 ⟨rfl, hb3⟩
        go_wp2_with fail
        go_ret
        exact ⟨rfl, FB2.out.trans (hb3.mono FB2.out.size)⟩
      · have t6 : (a / 2 - n / 2 == -4611686018427387904) = false := by simp; omega
        go_wp2_with fail
        with_reducible refine (works35 _).mono ?_
        rintro e w3 ⟨rfl, hb3⟩
        go_wp2_with fail
        go_ret
        exact ⟨rfl, FB2.out.trans (hb3.mono FB2.out.size)⟩
    · have t6 : (a / 2 - n / 2 == -4611686018427387904) = false := by simp; omega
      by_cases h3 : a / 2 - n / 2 = 4611686018427387904
      · have t4 : decide (a % 2 - n % 2 < 0) = false := by simp; omega
        go_wp2_with fail
        with_reducible refine (works35 _).mono ?_
        rintro e w3 ⟨rfl, hb3⟩
        go_wp2_with fail
        go_ret
        exact ⟨rfl, FB2.out.trans (hb3.mono FB2.out.size)⟩
      · have t5 : (a / 2 - n / 2 == 4611686018427387904) = false := by simp; omega
        go_wp2_with fail
        with_reducible refine (works35 _).mono ?_
        rintro e w3 ⟨rfl, hb3⟩
        go_wp2_with fail
        go_ret
        exact ⟨rfl, FB2.out.trans (hb3.mono FB2.out.size)⟩
end Go.Proofs.Ytebclbpibafkdaa
