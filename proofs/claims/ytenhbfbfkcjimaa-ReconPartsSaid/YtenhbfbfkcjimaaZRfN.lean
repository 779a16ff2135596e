/- Reference of layer 13: New. -/
import Derived.Test.YtenhbfbfkcjimaaZRcI
namespace Go.Proofs.Ytenhbfbfkcjimaa
set_option linter.unusedVariables false
set_option linter.unusedSimpArgs false
open Go.RowKit

/-- A graph of the reference's. -/
structure RGObj (w : World) (g n : Nat) (l : List Ed) : Prop where
  ex : ∃ ao cap b, Blk w g 94 [.bool true, .int .i64 n, .slice ao l.length cap] ∧ ERow w ao l.length b 0 l

theorem RGObj.below {w w' : World} {g n : Nat} {l : List Ed} (h : RGObj w g n l) (hb : Below w.heap.size w w') : RGObj w' g n l := by
  obtain ⟨ao, cap, b, h1, h2⟩ := h.ex
  exact ⟨ao, cap, b, h1.below hb h1.lt, h2.below hb⟩

structure RnPost (w : World) (n : Int) (l : List Ed) (e : Ending) (w' : World) : Prop where
  out : ∃ p, e = .returned (.tuple #[.pointer p, .int .i64 (newErr n l)]) ∧ (newErr n l ≠ 0 → p = none) ∧ (newErr n l = 0 → ∃ g, p = some ⟨g, 0, none⟩ ∧ RGObj w' g n.toNat l)
  bel : Below w.heap.size w w'
theorem RnPost.bad {w w' : World} {n : Int} {l : List Ed} {k : Int} (h : newErr n l = k) (hk : k ≠ 0) (hb : Below w.heap.size w w') : RnPost w n l (.returned (.tuple #[.pointer none, .int .i64 k])) w' :=
  ⟨⟨none, by rw [h], fun _ => rfl, fun h' => absurd (h.symm.trans h') hk⟩, hb⟩
theorem RnPost.ok {w w' : World} {n : Int} {l : List Ed} {g : Nat} (h : newErr n l = 0) (hg : RGObj w' g n.toNat l) (hb : Below w.heap.size w w') : RnPost w n l (.returned (.tuple #[.pointer (some ⟨g, 0, none⟩), .int .i64 0])) w' :=
  ⟨⟨_, by rw [h], fun h' => absurd h h', fun _ => ⟨g, rfl, hg⟩⟩, hb⟩

set_option maxHeartbeats 4000000 in
set_option maxRecDepth 100000 in
theorem rnew_ok (w : World) (n : Int) (ao : Option Addr) (m cap b off : Nat) (l : List Ed) (he : ERow w ao m b off l) (hm : m ≤ 9223372036854775807) (hnil : ao = none → cap = 0) (hn64 : -9223372036854775808 ≤ n ∧ n ≤ 9223372036854775807) :
    Calls Try.prog 30 #[.int .i64 n, .slice ao m cap] w (RnPost w n l) := by
  have HE := Lib.hid he
  have HS := Lib.hid he.size
  have HNIL := Lib.hid hnil
  clear he hnil
  by_cases h1 : n < 0
  · have t1 : decide (n < 0) = true := by simp [h1]
    have HF : Hid (newErr n l = 2) := by show _ = _; unfold newErr; rw [if_pos (.inl h1)]
    clear h1
    go_enter Try.func30, Try.ntmps30
    go_wp2_with fail
    go_ret2
    exact RnPost.bad HF.out (by decide) (Below.refl _ _)
  by_cases h2 : 4096 < n
  · have t1 : decide (n < 0) = false := by simp; omega
    have t2 : decide (4096 < n) = true := by simp [h2]
    have HF : Hid (newErr n l = 2) := by show _ = _; unfold newErr; rw [if_pos (.inr (.inl h2))]
    clear h1 h2
    go_enter Try.func30, Try.ntmps30
    go_wp2_with fail
    go_ret2
    exact RnPost.bad HF.out (by decide) (Below.refl _ _)
  have t1 : decide (n < 0) = false := by simp; omega
  have t2 : decide (4096 < n) = false := by simp; omega
  by_cases h3 : 16384 < m
  · have t3 : decide (16384 < m) = true := by simp [h3]
    have t3' : decide ((16384 : Int) < (m : Int)) = true := by simp; omega
    have HF : Hid (newErr n l = 2) := by show _ = _; unfold newErr; rw [if_pos (.inr (.inr (by rw [HS.out]; exact h3)))]
    clear h1 h2 h3
    go_enter Try.func30, Try.ntmps30
    go_wp2_with fail
    go_ret2
    exact RnPost.bad HF.out (by decide) (Below.refl _ _)
  have t3 : decide (16384 < m) = false := by simp; omega
  have t3' : decide ((16384 : Int) < (m : Int)) = false := by simp; omega
  have HF := Lib.hid (newErr_from (n := n) (l := l) (by rw [HS.out]; omega))
  have hm2 : m ≤ 16384 := by omega
  have hn2 : 0 ≤ n := by omega
  have hn3 : n ≤ 4096 := by omega
  clear h1 h2 h3
  go_enter Try.func30, Try.ntmps30
  go_wp2_with fail
  clear t1 t2 t3 t3'
  go_loopw [6] (fun s wr => ∃ t : Nat, t ≤ m ∧ s = .int .i64 t ∧ Below w.heap.size w wr ∧ newErr n l = errFrom n (l.drop t)) (fun s _ => m - (intOf s).toNat)
  case atStart => exact ⟨0, Nat.zero_le _, rfl, Below.refl _ _, HF.out⟩
  case round =>
    obtain ⟨t, ht, rfl, hb, hf⟩ := hrel
    have HB := Lib.hid hb
    have HF' := Lib.hid hf
    clear hb hf HF
    by_cases htm : t < m
    · obtain ⟨c0, c1, c2⟩ := (HE.out.below HB.out).cell t htm
      obtain rfl := HE.out.adr (by omega)
      have hd := Lib.hid (HF'.out.trans (errFrom_drop (by rw [HS.out]; exact htm)))
      generalize EA l t = ed at *
      obtain ⟨U, V, W⟩ := ed
      simp only at c0 c1 c2
      by_cases h1 : U < 0
      · have t1 : decide (U < 0) = true := by simp [h1]
        have HR : Hid (newErr n l = 3) := hd.out.trans (err_then (by unfold edErr; exact if_pos (.inl h1)) (by decide))
        clear h1 hd
        go_wp2_with fail
        go_ret2
        exact RnPost.bad HR.out (by decide) HB.out
      have t1 : decide (U < 0) = false := by simp; omega
      by_cases h2 : n ≤ U
      · have t2 : decide (n ≤ U) = true := by simp [h2]
        have HR : Hid (newErr n l = 3) := hd.out.trans (err_then (by unfold edErr; exact if_pos (.inr (.inl h2))) (by decide))
        clear h1 h2 hd
        go_wp2_with fail
        go_ret2
        exact RnPost.bad HR.out (by decide) HB.out
      have t2 : decide (n ≤ U) = false := by simp; omega
      by_cases h3 : V < 0
      · have t3 : decide (V < 0) = true := by simp [h3]
        have HR : Hid (newErr n l = 3) := hd.out.trans (err_then (by unfold edErr; exact if_pos (.inr (.inr (.inl h3)))) (by decide))
        clear h1 h2 h3 hd
        go_wp2_with fail
        go_ret2
        exact RnPost.bad HR.out (by decide) HB.out
      have t3 : decide (V < 0) = false := by simp; omega
      by_cases h4 : n ≤ V
      · have t4 : decide (n ≤ V) = true := by simp [h4]
        have HR : Hid (newErr n l = 3) := hd.out.trans (err_then (by unfold edErr; exact if_pos (.inr (.inr (.inr h4)))) (by decide))
        clear h1 h2 h3 h4 hd
        go_wp2_with fail
        go_ret2
        exact RnPost.bad HR.out (by decide) HB.out
      have t4 : decide (n ≤ V) = false := by simp; omega
      clear h1 h2 h3 h4
      have h12 : 0 ≤ U ∧ U < n ∧ 0 ≤ V ∧ V < n := by simp at t1 t2 t3 t4; omega
      have H12 := Lib.hid h12
      clear h12
      go_wp2_with fail
      clear t1 t2 t3 t4
      by_cases h5 : U = V
      · have t5 : (U == V) = true := by simp [h5]
        have HR : Hid (newErr n l = 9) := hd.out.trans (err_then (by unfold edErr; rw [if_neg (by simp only; have := H12.out; omega)]; exact if_pos h5) (by decide))
        clear h5 hd
        go_quiet (fail)
        have HBQ := Lib.hid (bel_drewN HB.out nq)
        go_wp2_with fail
        go_ret2
        exact RnPost.bad HR.out (by decide) HBQ.out
      have t5 : (U == V) = false := by simp [h5]
      have HR : Hid (newErr n l = errFrom n (l.drop (t + 1))) := by
        show _ = _
        rw [hd.out]
        have : edErr n ⟨U, V, W⟩ = 0 := edErr_zero.2 (by simp only; have := H12.out; omega)
        rw [this, if_pos rfl]
      clear h5 hd
      go_quiet (fail)
      have HBQ := Lib.hid (bel_drewN HB.out nq)
      go_wp2_with fail
      go_roundw
      case rel => exact ⟨t + 1, by omega, by go_num, HBQ.out, HR.out⟩
      case measure => simp [intOf]; omega
    · have htm3 : ¬ (t : Int) < (m : Int) := by omega
      have HZ : Hid (newErr n l = 0) := by
        show _ = _
        rw [HF'.out, List.drop_of_length_le (by rw [HS.out]; omega)]; rfl
      obtain ⟨k, hk, hg⟩ := GOk.of_err HZ.out
      have HG := Lib.hid hg
      obtain rfl := hk
      have HSR := Lib.hid (Src.of_edges (HE.out.below HB.out) HNIL.out)
      clear HF' hg
      have HEM := Lib.hid (owns_empty2 wr 59 3)
      have HB0 := Lib.hid ((Below.refl wr.heap.size wr).alloc (Nat.le_refl _) (.cells #[] 59))
      cases ao with
      | none =>
        obtain ⟨rfl, rfl⟩ := HSR.out.nil rfl
        have hl0 : l = [] := List.eq_nil_of_length_eq_zero HS.out
        subst hl0
        go_wp2_with (at_builtin; apply keepIt)
        apply Lib.hid
        refine wpList_appendR (by first | rfl | decide) 59 (.agg #[.int .i64 0, .int .i64 0, .int .i64 0]) 3 24 Try.underlying22 Try.infoEdge rfl (by decide) _ 0 [] rfl HEM.out (.slice none 0 0) 0 [] rfl (World.ownsRow_nil _ _ _ _) (by simp) (by unfold maxLen; omega) (by omega) ?_
        intro v2 w2 ho2 hg2 hn2'
        have hnr := new_row ho2 hg2 hn2'
        have ho := hnr.own
        obtain ⟨ao2, cap2, b2, e2, he2, _⟩ := ERow.of_owns (l := []) ho
        subst e2
        have HE2 := Lib.hid he2
        have HB2 := Lib.hid (bel_then HB.out hnr.bel)
        clear hnr ho he2 ho2 hg2 hn2'
        go_wp2_with fail
        go_ret2
        exact RnPost.ok HZ.out ⟨_, _, _, Blk.new _ _ _, HE2.out.below (Below.alloc (Below.refl _ _) (Nat.le_refl _) _)⟩ (HB2.out.alloc HB2.out.size _)
      | some ad =>
        have HSB := Lib.hid (HSR.out.below HB0.out)
        go_wp2_with (at_builtin; apply keepIt)
        apply Lib.hid
        refine wpList_appendB 59 (.agg #[.int .i64 0, .int .i64 0, .int .i64 0]) 3 24 Try.underlying22 Try.infoEdge rfl (by decide) _ 0 [] rfl HEM.out ad m cap (edCells l) rfl HSB.out.len (HSB.out.cell ad rfl) HSB.out.one (by unfold maxLen; omega) (by omega) ?_
        intro v2 w2 ho2 hg2 hn2'
        have hnr := new_row ho2 hg2 hn2'
        have ho := hnr.own
        rw [← HS.out] at ho
        obtain ⟨ao2, cap2, b2, e2, he2, _⟩ := ERow.of_owns ho
        subst e2
        have HE2 := Lib.hid he2
        have HB2 := Lib.hid (bel_then HB.out hnr.bel)
        clear hnr ho he2 ho2 hg2 hn2'
        go_wp2_with fail
        go_ret2
        exact RnPost.ok HZ.out ⟨_, _, _, Blk.new _ _ _, HE2.out.below (Below.alloc (Below.refl _ _) (Nat.le_refl _) _)⟩ (HB2.out.alloc HB2.out.size _)

end Go.Proofs.Ytenhbfbfkcjimaa
