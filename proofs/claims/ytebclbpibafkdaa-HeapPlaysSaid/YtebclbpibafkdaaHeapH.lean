/- Push's errors; the statements' example and the heap that they fill. -/
import Derived.Test.YtebclbpibafkdaaHeapG
namespace Go.Proofs.Ytebclbpibafkdaa
set_option linter.unusedVariables false
set_option linter.unusedSimpArgs false
open Go.RowKit

set_option maxHeartbeats 1000000 in
theorem push_range (w : World) (b slots : Nat) (S : List Ent) (g : HG) (h : HObj w b slots S g) (i key : Int) (hi : ¬ (0 ≤ i ∧ i < slots)) :
    Calls Try.prog 49 #[.pointer (some ⟨b, 0, none⟩), .int .i64 i, .int .i64 key] w (Ret (.int .i64 3) w) := by
  have c0 := h.rep.hb.cell (i := 0) rfl
  have c1 := h.rep.hb.cell (i := 1) rfl
  rw [h.hb] at c0 c1
  rw [h.hs] at c1
  have hhas : hasB i (slots : Int) = false := by unfold hasB; exact decide_eq_false hi
  clear h hi
  go_enter Try.func49, Try.ntmps49
  go_wp2_with (first
    | (go_at_call 59; refine (valid_ok b w c0).mono ?_; rintro e w' ⟨rfl, rfl⟩)
    | (go_at_call 83; refine (has_any b i slots w c1).mono ?_; rintro e w' ⟨rfl, rfl⟩))
  go_ret
  exact ⟨rfl, rfl⟩

set_option maxHeartbeats 1000000 in
theorem push_have (w : World) (b slots : Nat) (S : List Ent) (g : HG) (h : HObj w b slots S g) (i : Nat) (key : Int) (hi : i < slots) (hn : ∃ e ∈ S, e.1 = (i : Int)) :
    Calls Try.prog 49 #[.pointer (some ⟨b, 0, none⟩), .int .i64 i, .int .i64 key] w (Ret (.int .i64 6) w) := by
  have c0 := h.rep.hb.cell (i := 0) rfl
  have c1 := h.rep.hb.cell (i := 1) rfl
  rw [h.hb] at c0 c1
  rw [h.hs] at c1
  have hp0 : g.pl i ≠ 0 := fun h0 => by
    obtain ⟨e, he, ei⟩ := hn
    exact (h.pl_zero hi).1 h0 e he ei
  have hpc := Lib.hid (place_at w g h.hb h.rep i (by rw [h.hs]; exact hi) (h.pl_le hi))
  have hple := h.pl_le hi
  have hhas : hasB (i : Int) (slots : Int) = true := by unfold hasB; simp; omega
  clear h hn
  generalize g.pl i = q at *
  have hq : ((q : Int) - 1 != -1) = true := by rw [bne_iff_ne]; omega
  go_enter Try.func49, Try.ntmps49
  go_wp2_with (first
    | (go_at_call 59; refine (valid_ok b w c0).mono ?_; rintro e w' ⟨rfl, rfl⟩)
    | (go_at_call 83; refine (has_any b i slots w c1).mono ?_; rintro e w' ⟨rfl, rfl⟩)
    | (go_at_call 84; refine (hpc.out).mono ?_; rintro e w' ⟨rfl, rfl⟩))
  go_ret
  exact ⟨rfl, rfl⟩

structure NewH (n : Nat) (w : World) (e : Ending) (w' : World) : Prop where
  bel : Below w.heap.size w w'
  out : ∃ b g, HObj w' b n [] g ∧ (∀ k, g.foot k → w.heap.size ≤ k) ∧ e = .returned (.tuple #[.pointer (some ⟨b, 0, none⟩), .int .i64 0])

theorem new_obj (n : Nat) (w : World) (h : n ≤ 65536) : Calls Try.prog 44 #[.int .i64 n] w (NewH n w) := by
  refine (new_ok n w h).mono ?_
  rintro e w' ⟨hb, g, hr, hs, hi, hl, hf, he⟩
  refine ⟨hb, g.b, g, ⟨hr, ⟨fun p hp => ?_, fun i _ h0 => ?_⟩, fun q q0 ql => ?_, rfl, hs, by rw [hi], List.Pairwise.nil⟩, hf, he⟩
  · rw [hi] at hp; simp at hp
  · rw [hl] at h0; exact absurd rfl h0
  · rw [hi] at ql; simp at ql

set_option maxHeartbeats 4000000 in
set_option maxRecDepth 100000 in
theorem works04 (w : World) : Calls Try.prog 21 #[] w (RetB (.bool true) w) := by
  go_enter Try.func21, Try.ntmps21
  go_wp2_with fail
  refine (new_obj 4 w (by omega)).mono ?_
  rintro e w1 ⟨hb1, b, g, ho, hf, rfl⟩
  have HO := Lib.hid ho
  have HB := Lib.hid hb1
  have HF := Lib.hid hf
  clear ho hb1 hf
  go_wp2_with fail
  refine (push_ok w1 b 4 [] g HO.out 2 5 (by omega) (by simp)).mono ?_
  rintro e w2 ⟨rfl, g2, ho2, hm2, hf2⟩
  have HO2 := Lib.hid ho2
  have HB2 : Hid (Below w.heap.size w w2) := HB.out.trans (hm2.below HB.out.size HF.out)
  have HF2 : Hid (∀ k, g2.foot k → w.heap.size ≤ k) := fun k hk => by
    have := HB.out.size
    rcases hf2 k hk with a | a
    · exact HF.out k a
    · omega
  clear ho2 hm2 hf2
  go_wp2_with fail
  refine (push_ok w2 b 4 _ g2 HO2.out 0 5 (by omega) (by simp [ins])).mono ?_
  rintro e w3 ⟨rfl, g3, ho3, hm3, hf3⟩
  have HO3 := Lib.hid ho3
  have HB3 : Hid (Below w.heap.size w w3) := HB2.out.trans (hm3.below HB2.out.size HF2.out)
  have HF3 : Hid (∀ k, g3.foot k → w.heap.size ≤ k) := fun k hk => by
    have := HB2.out.size
    rcases hf3 k hk with a | a
    · exact HF2.out k a
    · omega
  clear ho3 hm3 hf3
  go_wp2_with fail
  refine (push_have w3 b 4 _ g3 HO3.out 2 7 (by omega) ⟨(2, 5), by decide, rfl⟩).mono ?_
  rintro e w4 ⟨rfl, rfl⟩
  go_wp2_with fail
  have hS : ins (((0 : Nat) : Int), 5) (ins (((2 : Nat) : Int), 5) []) = (0, 5) :: [(2, 5)] := by decide
  have HO4 := HO3.out
  rw [hS] at HO4
  refine (pop_some w3 b 4 (0, 5) [(2, 5)] g3 HO4).mono ?_
  rintro e w5 ⟨rfl, g5, ho5, hm5, hf5⟩
  have HO5 := Lib.hid ho5
  have HB5 : Hid (Below w.heap.size w w5) := HB3.out.trans (hm5.below HB3.out.size HF3.out)
  clear ho5 hm5 hf5 hS HO4
  go_wp2_with (go_at_call 24; refine (len_ok _ b 4 _ g5 (HO5.out.below ((Below.refl _ _).alloc (Nat.le_refl _) _))).mono ?_; rintro e w' ⟨rfl, rfl⟩)
  go_ret
  exact ⟨rfl, HB5.out.alloc HB5.out.size _⟩

end Go.Proofs.Ytebclbpibafkdaa
