/- graph.New. -/
import Derived.Test.YthacjealoomioaaZRcH
namespace Go.Proofs.Ythacjealoomioaa
set_option linter.unusedVariables false
set_option linter.unusedSimpArgs false
open Go.RowKit

/-- A graph of the program's. -/
structure GObj (w : World) (g n : Nat) (l : List Ed) : Prop where
  ex : ∃ ao cap b sb lb, Blk w g 88 [.pointer (some ⟨g, 0, none⟩), .slice ao l.length cap, .slice (some ⟨sb, 0, none⟩) (n + 1) (n + 1), .slice (some ⟨lb, 0, none⟩) (2 * l.length) (2 * l.length)] ∧ ERow w ao l.length b 0 l

theorem GObj.below {w w' : World} {g n : Nat} {l : List Ed} (h : GObj w g n l) (hb : Below w.heap.size w w') : GObj w' g n l := by
  obtain ⟨ao, cap, b, sb, lb, h1, h2⟩ := h.ex
  exact ⟨ao, cap, b, sb, lb, h1.below hb h1.lt, h2.below hb⟩

structure NwPost (w : World) (n : Int) (l : List Ed) (e : Ending) (w' : World) : Prop where
  out : ∃ p, e = .returned (.tuple #[.pointer p, .int .i64 (newErr n l)]) ∧ (newErr n l ≠ 0 → p = none) ∧ (newErr n l = 0 → ∃ g, p = some ⟨g, 0, none⟩ ∧ GObj w' g n.toNat l)
  bel : Below w.heap.size w w'

theorem NwPost.bad {w w' : World} {n : Int} {l : List Ed} {k : Int} (h : newErr n l = k) (hk : k ≠ 0) (hb : Below w.heap.size w w') : NwPost w n l (.returned (.tuple #[.pointer none, .int .i64 k])) w' :=
  ⟨⟨none, by rw [h], fun _ => rfl, fun e => absurd (h.symm.trans e) hk⟩, hb⟩

theorem NwPost.ok {w w' : World} {n : Int} {l : List Ed} {g : Nat} (h : newErr n l = 0) (hg : GObj w' g n.toNat l) (hb : Below w.heap.size w w') : NwPost w n l (.returned (.tuple #[.pointer (some ⟨g, 0, none⟩), .int .i64 0])) w' :=
  ⟨⟨some ⟨g, 0, none⟩, by rw [h], fun e => absurd h e, fun _ => ⟨g, rfl, hg⟩⟩, hb⟩

theorem err_then {n : Int} {e : Ed} {k r : Int} (h : edErr n e = k) (hk : k ≠ 0) : (if edErr n e = 0 then r else edErr n e) = k := by
  rw [h, if_neg hk]

theorem newErr_from {n : Int} {l : List Ed} (h : ¬ (n < 0 ∨ 4096 < n ∨ 16384 < l.length)) : newErr n l = errFrom n (l.drop 0) := by
  unfold newErr; rw [if_neg h]; rfl

set_option maxHeartbeats 4000000 in
set_option maxRecDepth 100000 in
theorem new_ok (w : World) (n : Int) (ao : Option Addr) (m cap b off : Nat) (l : List Ed) (he : ERow w ao m b off l) (hm : m ≤ 9223372036854775807) (hnil : ao = none → cap = 0) (hn64 : -9223372036854775808 ≤ n ∧ n ≤ 9223372036854775807) :
    Calls Try.prog 8 #[.int .i64 n, .slice ao m cap] w (NwPost w n l) := by
  have HE := Lib.hid he
  have HS := Lib.hid he.size
  have HNIL := Lib.hid hnil
  clear he hnil
  by_cases h1 : n < 0
  · have t1 : decide (n < 0) = true := by simp [h1]
    have HF : Hid (newErr n l = 2) := by show _ = _; unfold newErr; rw [if_pos (.inl h1)]
    clear h1
    go_enter Try.func8, Try.ntmps8
    go_wp2_with fail
    go_ret2
    exact NwPost.bad HF.out (by decide) (Below.refl _ _)
  by_cases h2 : 4096 < n
  · have t1 : decide (n < 0) = false := by simp; omega
    have t2 : decide (4096 < n) = true := by simp [h2]
    have HF : Hid (newErr n l = 2) := by show _ = _; unfold newErr; rw [if_pos (.inr (.inl h2))]
    clear h1 h2
    go_enter Try.func8, Try.ntmps8
    go_wp2_with fail
    go_ret2
    exact NwPost.bad HF.out (by decide) (Below.refl _ _)
  have t1 : decide (n < 0) = false := by simp; omega
  have t2 : decide (4096 < n) = false := by simp; omega
  by_cases h3 : 16384 < m
  · have t3 : decide (16384 < m) = true := by simp [h3]
    have t3' : decide ((16384 : Int) < (m : Int)) = true := by simp; omega
    have HF : Hid (newErr n l = 2) := by show _ = _; unfold newErr; rw [if_pos (.inr (.inr (by rw [HS.out]; exact h3)))]
    clear h1 h2 h3
    go_enter Try.func8, Try.ntmps8
    go_wp2_with fail
    go_ret2
    exact NwPost.bad HF.out (by decide) (Below.refl _ _)
  have t3 : decide (16384 < m) = false := by simp; omega
  have t3' : decide ((16384 : Int) < (m : Int)) = false := by simp; omega
  have HF := Lib.hid (newErr_from (n := n) (l := l) (by rw [HS.out]; omega))
  have hm2 : m ≤ 16384 := by omega
  have hn2 : 0 ≤ n := by omega
  have hn3 : n ≤ 4096 := by omega
  clear h1 h2 h3
  go_enter Try.func8, Try.ntmps8
  go_wp2_with fail
  clear t1 t2 t3 t3'
  go_loopw [21] (fun s wr => ∃ t : Nat, t ≤ m ∧ s = .int .i64 t ∧ Below w.heap.size w wr ∧ newErr n l = errFrom n (l.drop t)) (fun s _ => m - (intOf s).toNat)
  case atStart => exact ⟨0, Nat.zero_le _, rfl, Below.refl _ _, HF.out⟩
  case round =>
    obtain ⟨t, ht, rfl, hb, hf⟩ := hrel
    have HB := Lib.hid hb
    have HF' := Lib.hid hf
    clear hb hf HF
    by_cases htm : t < m
    · obtain ⟨c0, c1, c2⟩ := (HE.out.below HB.out).cell t htm
      obtain rfl := HE.out.adr (by omega)
      have hd := Lib.hid (HF'.out.trans (errFrom_drop (by rw [HS.out]; exact htm)))
      have HB2 := Lib.hid (HB.out.alloc HB.out.size (.cells #[.int .i64 (EA l t).U, .int .i64 (EA l t).V, .int .i64 (EA l t).W] 27))
      generalize EA l t = ed at *
      obtain ⟨U, V, W⟩ := ed
      simp only at c0 c1 c2 HB2
      by_cases h1 : U < 0
      · have t1 : decide (U < 0) = true := by simp [h1]
        have HR : Hid (newErr n l = 3) := hd.out.trans (err_then (by unfold edErr; exact if_pos (.inl h1)) (by decide))
        clear h1 hd
        go_wp2_with fail
        go_ret2
        exact NwPost.bad HR.out (by decide) HB2.out
      have t1 : decide (U < 0) = false := by simp; omega
      by_cases h2 : n ≤ U
      · have t2 : decide (n ≤ U) = true := by simp [h2]
        have HR : Hid (newErr n l = 3) := hd.out.trans (err_then (by unfold edErr; exact if_pos (.inr (.inl h2))) (by decide))
        clear h1 h2 hd
        go_wp2_with fail
        go_ret2
        exact NwPost.bad HR.out (by decide) HB2.out
      have t2 : decide (n ≤ U) = false := by simp; omega
      by_cases h3 : V < 0
      · have t3 : decide (V < 0) = true := by simp [h3]
        have HR : Hid (newErr n l = 3) := hd.out.trans (err_then (by unfold edErr; exact if_pos (.inr (.inr (.inl h3)))) (by decide))
        clear h1 h2 h3 hd
        go_wp2_with fail
        go_ret2
        exact NwPost.bad HR.out (by decide) HB2.out
      have t3 : decide (V < 0) = false := by simp; omega
      by_cases h4 : n ≤ V
      · have t4 : decide (n ≤ V) = true := by simp [h4]
        have HR : Hid (newErr n l = 3) := hd.out.trans (err_then (by unfold edErr; exact if_pos (.inr (.inr (.inr h4)))) (by decide))
        clear h1 h2 h3 h4 hd
        go_wp2_with fail
        go_ret2
        exact NwPost.bad HR.out (by decide) HB2.out
      have t4 : decide (n ≤ V) = false := by simp; omega
      by_cases h5 : U = V
      · have t5 : (U == V) = true := by simp [h5]
        have HR : Hid (newErr n l = 9) := hd.out.trans (err_then (by unfold edErr; rw [if_neg (by simp only; omega)]; exact if_pos h5) (by decide))
        clear h1 h2 h3 h4 h5 hd
        go_wp2_with fail
        go_ret2
        exact NwPost.bad HR.out (by decide) HB2.out
      have t5 : (U == V) = false := by simp [h5]
      have HR : Hid (newErr n l = errFrom n (l.drop (t + 1))) := by
        show _ = _
        rw [hd.out]
        have : edErr n ⟨U, V, W⟩ = 0 := edErr_zero.2 (by simp only; omega)
        rw [this, if_pos rfl]
      clear h1 h2 h3 h4 h5 hd
      go_wp2_with fail
      go_roundw
      case rel => exact ⟨t + 1, by omega, by go_num, HB2.out, HR.out⟩
      case measure => simp [intOf]; omega
    · have htm3 : ¬ (t : Int) < (m : Int) := by omega
      have HZ : Hid (newErr n l = 0) := by
        show _ = _
        rw [HF'.out, List.drop_of_length_le (by rw [HS.out]; omega)]; rfl
      obtain ⟨k, hk, hg⟩ := GOk.of_err HZ.out
      have HG := Lib.hid hg
      obtain rfl := hk
      have HSR := Lib.hid (Src.of_edges (HE.out.below HB.out) HNIL.out)
      clear HF' hg
      go_wp2_with fail
      with_reducible refine (cloneE_ok wr ao m cap (edCells l) HSR.out (by omega)).mono ?_
      rintro e w2 ⟨v2, rfl, hnr⟩
      have ho := hnr.own
      rw [← HS.out] at ho
      obtain ⟨ao2, cap2, b2, e2, he2, _⟩ := ERow.of_owns ho
      subst e2
      have HE2 := Lib.hid he2
      have HB2 := Lib.hid (bel_then HB.out hnr.bel)
      clear hnr ho he2
      go_wp2_with fail
      with_reducible refine (build_ok w2 k ao2 l.length cap2 b2 0 l HE2.out HG.out).mono ?_
      rintro e w3 ⟨⟨g, sb, lb, rfl, hgb⟩, hb3⟩
      have HGB : Hid (GObj w3 g k l) := ⟨ao2, cap2, b2, sb, lb, hgb, HE2.out.below hb3⟩
      have HB3 := Lib.hid (bel_then HB2.out hb3)
      clear hgb hb3
      go_wp2_with fail
      go_ret2
      exact NwPost.ok HZ.out HGB.out HB3.out

end Go.Proofs.Ythacjealoomioaa
