/- The reference of layer 35: Next, Len, Left, Drop, Set, Due, Copy. -/
import Derived.Test.YtebclbpibafkdaaRefE
namespace Go.Proofs.Ytebclbpibafkdaa
set_option linter.unusedVariables false
set_option linter.unusedSimpArgs false
open Go.RowKit

set_option maxHeartbeats 1000000 in
theorem rlen_ok (w : World) (r slots : Nat) (L : List Ent) (v : Value) (h : RObj w r slots L v) :
    Calls Try.prog 67 #[.pointer (some ⟨r, 0, none⟩)] w (Ret (.int .i64 (L.length : Nat)) w) := by
  obtain ⟨ao, cap, rfl⟩ := owns_slice h.own
  have c0 := h.blk.cell (i := 0) rfl
  have c2 := h.blk.cell (i := 2) rfl
  clear h
  go_enter Try.func67, Try.ntmps67
  go_wp2_with (go_at_call 73; refine (rvalid_ok r w c0).mono ?_; rintro e w' ⟨rfl, rfl⟩)
  go_ret
  exact ⟨rfl, rfl⟩

set_option maxHeartbeats 1000000 in
theorem rlen_nil (w : World) :
    Calls Try.prog 67 #[.pointer none] w (Ret (.int .i64 0) w) := by
  go_enter Try.func67, Try.ntmps67
  go_wp2_with (go_at_call 73; refine (rvalid_nil w).mono ?_; rintro e w' ⟨rfl, rfl⟩)
  go_ret
  exact ⟨rfl, rfl⟩

set_option maxHeartbeats 1000000 in
theorem rnext_nil (w : World) :
    Calls Try.prog 65 #[.pointer none] w (RetB (.tuple #[.agg #[.int .i64 0, .int .i64 0], .bool false]) w) := by
  have hb : Below w.heap.size w (w.alloc (.cells #[.int .i64 0, .int .i64 0] 28)) := (Below.refl _ _).alloc (Nat.le_refl _) _
  have HB := Lib.hid hb
  clear hb
  go_enter Try.func65, Try.ntmps65
  go_wp2_with (go_at_call 73; refine (rvalid_nil _).mono ?_; rintro e w' ⟨rfl, rfl⟩)
  exact bodyPost_ret (v := .tuple #[.agg #[.int .i64 0, .int .i64 0], .bool false]) (by simp [results, Try.results65, go_sem]) rfl ⟨rfl, HB.out⟩

set_option maxHeartbeats 1000000 in
theorem rnext_any (w : World) (r slots : Nat) (L : List Ent) (v : Value) (h : RObj w r slots L v) :
    Calls Try.prog 65 #[.pointer (some ⟨r, 0, none⟩)] w (RetB (headV L) w) := by
  have hb : Below w.heap.size w (w.alloc (.cells #[.int .i64 0, .int .i64 0] 28)) := (Below.refl _ _).alloc (Nat.le_refl _) _
  have h1 := h.below hb
  obtain ⟨ao, cap, rfl, hcells⟩ := erow_form h1.own
  have c0 := h1.blk.cell (i := 0) rfl
  have c2 := h1.blk.cell (i := 2) rfl
  have hlen := h.len
  have HB := Lib.hid hb
  clear h h1 hb
  cases L with
  | nil =>
    simp only [List.length_nil] at c2
    clear hcells
    go_enter Try.func65, Try.ntmps65
    go_wp2_with (go_at_call 73; refine (rvalid_ok r _ c0).mono ?_; rintro e w' ⟨rfl, rfl⟩)
    exact bodyPost_ret (v := .tuple #[.agg #[.int .i64 0, .int .i64 0], .bool false]) (by simp [results, Try.results65, go_sem]) rfl ⟨rfl, HB.out⟩
  | cons x l =>
    obtain ⟨b, rfl, hb, hc1, hc2, hc⟩ := hcells (by simp)
    obtain ⟨k0, k1⟩ := hc 0 (by simp)
    simp only [Nat.zero_mul, Nat.zero_add] at k0 k1
    have e0 : ent (x :: l) 0 = x := rfl
    rw [e0] at k0 k1
    unfold maxLen at hc2
    clear hc e0
    generalize hn : (x :: l).length = n at *
    have hn0 : 0 < n := by rw [← hn]; simp
    have t1 : ((n : Int) == 0) = false := beq_eq_false_iff_ne.2 (by omega)
    clear hn
    go_enter Try.func65, Try.ntmps65
    go_wp2_with (go_at_call 73; refine (rvalid_ok r _ c0).mono ?_; rintro e w' ⟨rfl, rfl⟩)
    exact bodyPost_ret (v := .tuple #[.agg #[.int .i64 x.1, .int .i64 x.2], .bool true]) (by simp [results, Try.results65, go_sem]) rfl ⟨rfl, (Below.refl _ _).alloc (Nat.le_refl _) _⟩

set_option maxHeartbeats 1000000 in
theorem rleft_nil (w : World) (slot now : Int) :
    Calls Try.prog 66 #[.pointer none, .int .i64 slot, .int .i64 now] w (Ret (.tuple #[.int .i64 0, .int .i64 1]) w) := by
  go_enter Try.func66, Try.ntmps66
  go_wp2_with (go_at_call 70; refine (rcheck_nil w slot).mono ?_; rintro e w' ⟨rfl, rfl⟩)
  go_ret2
  exact ⟨rfl, rfl⟩

set_option maxHeartbeats 1000000 in
theorem rleft_range (w : World) (r slots : Nat) (L : List Ent) (v : Value) (h : RObj w r slots L v) (slot now : Int) (hi : ¬ (0 ≤ slot ∧ slot < slots)) :
    Calls Try.prog 66 #[.pointer (some ⟨r, 0, none⟩), .int .i64 slot, .int .i64 now] w (Ret (.tuple #[.int .i64 0, .int .i64 3]) w) := by
  have HH := Lib.hid h
  have HI := Lib.hid hi
  clear h hi
  go_enter Try.func66, Try.ntmps66
  go_wp2_with (go_at_call 70; refine (rcheck_range w r slots L v HH.out slot HI.out).mono ?_; rintro e w' ⟨rfl, rfl⟩)
  go_ret2
  exact ⟨rfl, rfl⟩

set_option maxHeartbeats 1000000 in
theorem rleft_none (w : World) (r slots : Nat) (L : List Ent) (v : Value) (h : RObj w r slots L v) (slot now : Int) (h0 : 0 ≤ slot) (h1 : slot < slots) (hn : rfind slot L = -1) :
    Calls Try.prog 66 #[.pointer (some ⟨r, 0, none⟩), .int .i64 slot, .int .i64 now] w (Ret (.tuple #[.int .i64 0, .int .i64 5]) w) := by
  have HF : Hid (Calls Try.prog 72 #[.pointer (some ⟨r, 0, none⟩), .int .i64 slot] w (Ret (.int .i64 (-1)) w)) := by rw [← hn]; exact rfind_ok w r slots L v h slot
  have HH := Lib.hid h
  clear h hn
  go_enter Try.func66, Try.ntmps66
  go_wp2_with (first
    | (go_at_call 70; refine (rcheck_ok w r slots L v HH.out slot h0 h1).mono ?_; rintro e w' ⟨rfl, rfl⟩)
    | (go_at_call 72; refine (HF.out).mono ?_; rintro e w' ⟨rfl, rfl⟩))
  go_ret2
  exact ⟨rfl, rfl⟩

set_option maxHeartbeats 2000000 in
theorem rleft_fits (w : World) (r slots : Nat) (L : List Ent) (v : Value) (h : RObj w r slots L v) (slot now : Int) (h0 : 0 ≤ slot) (h1 : slot < slots) (p : Nat) (hp : p < L.length) (hf : rfind slot L = (p : Int))
    (k : Int) (hk : (ent L p).2 = k) (hk1 : I64 k) (hk2 : I64 now) (hd : I64 (k - now)) :
    Calls Try.prog 66 #[.pointer (some ⟨r, 0, none⟩), .int .i64 slot, .int .i64 now] w (Ret (.tuple #[.int .i64 (k - now), .int .i64 0]) w) := by
  have HF : Hid (Calls Try.prog 72 #[.pointer (some ⟨r, 0, none⟩), .int .i64 slot] w (Ret (.int .i64 p) w)) := by rw [← hf]; exact rfind_ok w r slots L v h slot
  have HH := Lib.hid h
  obtain ⟨ao, cap, rfl, hcells⟩ := erow_form h.own
  obtain ⟨b, rfl, hb, hc1, hc2, hc⟩ := hcells (by omega)
  have kk := (hc p hp).2
  rw [hk] at kk
  have c2 := h.blk.cell (i := 2) rfl
  have hlen := h.len
  unfold maxLen at hc2
  have hp0 : decide ((p : Int) < 0) = false := by simp
  clear h hf hc hcells hk
  generalize hn : L.length = n at *
  clear hn
  obtain ⟨a1, a2⟩ := hk1
  obtain ⟨b1, b2⟩ := hk2
  obtain ⟨d1, d2⟩ := hd
  by_cases ek : 0 ≤ k <;> by_cases en : now < 0
  all_goals
    go_enter Try.func66, Try.ntmps66
    go_wp2_with (first
      | (go_at_call 70; refine (rcheck_ok w r slots L _ HH.out slot h0 h1).mono ?_; rintro e w' ⟨rfl, rfl⟩)
      | (go_at_call 72; refine (HF.out).mono ?_; rintro e w' ⟨rfl, rfl⟩))
    go_ret2
    exact ⟨rfl, rfl⟩

set_option maxHeartbeats 2000000 in
theorem rleft_over (w : World) (r slots : Nat) (L : List Ent) (v : Value) (h : RObj w r slots L v) (slot now : Int) (h0 : 0 ≤ slot) (h1 : slot < slots) (p : Nat) (hp : p < L.length) (hf : rfind slot L = (p : Int))
    (k : Int) (hk : (ent L p).2 = k) (hk1 : I64 k) (hk2 : I64 now) (hd : ¬ I64 (k - now)) :
    Calls Try.prog 66 #[.pointer (some ⟨r, 0, none⟩), .int .i64 slot, .int .i64 now] w (Ret (.tuple #[.int .i64 0, .int .i64 7]) w) := by
  have HF : Hid (Calls Try.prog 72 #[.pointer (some ⟨r, 0, none⟩), .int .i64 slot] w (Ret (.int .i64 p) w)) := by rw [← hf]; exact rfind_ok w r slots L v h slot
  have HH := Lib.hid h
  obtain ⟨ao, cap, rfl, hcells⟩ := erow_form h.own
  obtain ⟨b, rfl, hb, hc1, hc2, hc⟩ := hcells (by omega)
  have kk := (hc p hp).2
  rw [hk] at kk
  have c2 := h.blk.cell (i := 2) rfl
  have hlen := h.len
  unfold maxLen at hc2
  have hp0 : decide ((p : Int) < 0) = false := by simp
  clear h hf hc hcells hk
  generalize hn : L.length = n at *
  clear hn
  obtain ⟨a1, a2⟩ := hk1
  obtain ⟨b1, b2⟩ := hk2
  have hd' : k - now < -9223372036854775808 ∨ 9223372036854775807 < k - now := by unfold I64 at hd; omega
  clear hd
  rcases hd' with hd | hd
  · have hw := wrap_neg (k - now) (by omega) hd
    have t1 : decide (wrap64 (k - now) < 0) = false := by simpa using hw
    have t2 : decide (0 ≤ wrap64 (k - now)) = true := by simp; omega
    have ek : k < 0 := by omega
    have en : 0 ≤ now := by omega
    clear hw
    go_enter Try.func66, Try.ntmps66
    go_wp2_with (first
      | (go_at_call 70; refine (rcheck_ok w r slots L _ HH.out slot h0 h1).mono ?_; rintro e w' ⟨rfl, rfl⟩)
      | (go_at_call 72; refine (HF.out).mono ?_; rintro e w' ⟨rfl, rfl⟩))
    go_ret2
    exact ⟨rfl, rfl⟩
  · have hw := wrap_pos (k - now) (by omega) hd
    have t1 : decide (wrap64 (k - now) < 0) = true := by simpa using hw
    have ek : 0 ≤ k := by omega
    have en : now < 0 := by omega
    clear hw
    go_enter Try.func66, Try.ntmps66
    go_wp2_with (first
      | (go_at_call 70; refine (rcheck_ok w r slots L _ HH.out slot h0 h1).mono ?_; rintro e w' ⟨rfl, rfl⟩)
      | (go_at_call 72; refine (HF.out).mono ?_; rintro e w' ⟨rfl, rfl⟩))
    go_ret2
    exact ⟨rfl, rfl⟩

end Go.Proofs.Ytebclbpibafkdaa
