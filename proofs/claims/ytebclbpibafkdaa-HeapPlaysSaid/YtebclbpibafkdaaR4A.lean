/- The reference of layer 4: its object, New, valid, find, without, Len, Key, Before. -/
import Derived.Test.YtebclbpibafkdaaRefE
namespace Go.Proofs.Ytebclbpibafkdaa
set_option linter.unusedVariables false
set_option linter.unusedSimpArgs false
open Go.RowKit

/-- The reference's schedule: its block, its slots, its entries. -/
structure R4Obj (w : World) (r slots : Nat) (L : List Ent) (v : Value) : Prop where
  blk : Blk w r 106 [.bool true, .int .i64 (slots : Nat), v]
  own : w.ownsRow 0 28 2 v L.length (ents L)
  ne : v.ownBlock ≠ some r
  len : L.length ≤ 65536

theorem R4Obj.below {w w' : World} {r slots : Nat} {L : List Ent} {v : Value} (h : R4Obj w r slots L v) (k : Below w.heap.size w w') : R4Obj w' r slots L v :=
  ⟨h.blk.below k h.blk.lt, owns_same h.own (fun x hx => k.block x (h.own.lt x hx).2), h.ne, h.len⟩

theorem R4Obj.mod {F : Nat → Prop} {w w' : World} {r slots : Nat} {L : List Ent} {v : Value} (h : R4Obj w r slots L v) (m : Mod F w w') (h1 : ¬ F r) (h2 : ∀ x, v.ownBlock = some x → ¬ F x) : R4Obj w' r slots L v :=
  ⟨h.blk.mod m h1, owns_same h.own (fun x hx => m.block x (h.own.lt x hx).2 (h2 x hx)), h.ne, h.len⟩

theorem R4Obj.lt {w : World} {r slots : Nat} {L : List Ent} {v : Value} (h : R4Obj w r slots L v) : ∀ k, (k = r ∨ v.ownBlock = some k) → k < w.heap.size := by
  rintro k (rfl | hk)
  · exact h.blk.lt
  · exact (h.own.lt k hk).2

set_option maxHeartbeats 400000 in
theorem r4valid_ok (r : Nat) (w : World) (c0 : w.cell? ⟨r, 0, none⟩ = some (.bool true)) :
    Calls Try.prog 86 #[.pointer (some ⟨r, 0, none⟩)] w (Ret (.bool true) w) := by
  go_enter Try.func86, Try.ntmps86
  go_wp2
  go_ret
  exact ⟨rfl, rfl⟩

set_option maxHeartbeats 400000 in
theorem r4valid_nil (w : World) : Calls Try.prog 86 #[.pointer none] w (Ret (.bool false) w) := by
  go_enter Try.func86, Try.ntmps86
  go_wp2
  go_ret
  exact ⟨rfl, rfl⟩

set_option maxHeartbeats 400000 in
theorem r4new_low (n : Int) (w : World) (h : n < 0 ∨ 65536 < n) : Calls Try.prog 45 #[.int .i64 n] w (Ret (.tuple #[.pointer none, .int .i64 2]) w) := by
  rcases h with h | h
  · have t1 : decide (n < 0) = true := by simp; omega
    go_enter Try.func45, Try.ntmps45
    go_wp2
    go_ret2
    exact ⟨rfl, rfl⟩
  · have t1 : decide (n < 0) = false := by simp; omega
    go_enter Try.func45, Try.ntmps45
    go_wp2
    go_ret2
    exact ⟨rfl, rfl⟩

structure R4New (n : Nat) (w : World) (e : Ending) (w' : World) : Prop where
  bel : Below w.heap.size w w'
  out : ∃ r v, R4Obj w' r n [] v ∧ w.heap.size ≤ r ∧ (∀ k, v.ownBlock = some k → w.heap.size ≤ k) ∧ e = .returned (.tuple #[.pointer (some ⟨r, 0, none⟩), .int .i64 0])

set_option maxHeartbeats 400000 in
theorem r4new_ok (n : Nat) (w : World) (h : n ≤ 65536) : Calls Try.prog 45 #[.int .i64 n] w (R4New n w) := by
  have hb : Below w.heap.size w (w.alloc (.cells #[.bool true, .int .i64 (n : Nat), .slice none 0 0] 106)) := (Below.refl _ _).alloc (Nat.le_refl _) _
  have HB := Lib.hid hb
  have HN := Lib.hid (Blk.new w 106 [.bool true, .int .i64 (n : Nat), .slice none 0 0])
  clear hb
  go_enter Try.func45, Try.ntmps45
  go_wp2
  go_ret2
  exact ⟨HB.out, _, _, ⟨HN.out, World.ownsRow_nil _ _ _ _, by simp [Value.ownBlock], by simp⟩, Nat.le_refl _, by simp [Value.ownBlock], rfl⟩

set_option maxHeartbeats 1000000 in
theorem r4find_ok (w : World) (r slots : Nat) (L : List Ent) (v : Value) (h : R4Obj w r slots L v) (slot : Int) :
    Calls Try.prog 87 #[.pointer (some ⟨r, 0, none⟩), .int .i64 slot] w (Ret (.int .i64 (rfind slot L)) w) := by
  obtain ⟨ao, cap, rfl, hcells⟩ := erow_form h.own
  have c2 := h.blk.cell (i := 2) rfl
  have hlen := h.len
  have HC := Lib.hid hcells
  clear h hcells
  obtain ⟨n, hn⟩ : ∃ n, n = L.length := ⟨_, rfl⟩
  rw [← hn] at c2 hlen
  have HN := Lib.hid hn
  clear hn
  go_enter Try.func87, Try.ntmps87
  go_wp2_with fail
  go_loop [5] (fun s5 => ∃ k : Nat, k ≤ n ∧ s5 = .int .i64 k ∧ Hid (∀ j, j < k → (ent L j).1 ≠ slot)) (fun s5 => n - (intOf s5).toNat)
  case atStart => exact ⟨0, by omega, rfl, fun j hj => by omega⟩
  case round =>
    obtain ⟨k, hk, rfl, HF⟩ := hrel
    by_cases hlt : k < n
    · obtain ⟨b, rfl, hb, hc1, hc2, hc⟩ := HC.out (by rw [← HN.out]; omega)
      have k0 := (hc k (by rw [← HN.out]; exact hlt)).1
      rw [← HN.out] at hc1
      unfold maxLen at hc2
      clear hc
      by_cases he : (ent L k).1 = slot
      · have HE := Lib.hid (rfind_at (by rw [← HN.out]; exact hlt) he HF.out)
        have t1 : ((ent L k).1 == slot) = true := by simp [he]
        clear he
        go_wp2_with fail
        go_ret
        exact ⟨ret_int HE.out.symm, rfl⟩
      · have t1 : ((ent L k).1 == slot) = false := by simp [he]
        have HE := Lib.hid he
        clear he
        go_wp2_with fail
        go_round
        case rel => exact ⟨k + 1, by omega, by go_num, fun j hj => by
          by_cases e : j = k
          · subst e; exact HE.out
          · exact HF.out j (by omega)⟩
        case measure => simp [intOf]; omega
    · obtain rfl : k = n := by omega
      go_wp2_with fail
      go_ret
      exact ⟨ret_int (rfind_no (by rw [← HN.out]; exact HF.out)).symm, rfl⟩

set_option maxHeartbeats 1000000 in
theorem r4len_ok (w : World) (r slots : Nat) (L : List Ent) (v : Value) (h : R4Obj w r slots L v) :
    Calls Try.prog 79 #[.pointer (some ⟨r, 0, none⟩)] w (Ret (.int .i64 (L.length : Nat)) w) := by
  obtain ⟨ao, cap, rfl⟩ := owns_slice h.own
  have c0 := h.blk.cell (i := 0) rfl
  have c2 := h.blk.cell (i := 2) rfl
  clear h
  go_enter Try.func79, Try.ntmps79
  go_wp2_with (go_at_call 86; refine (r4valid_ok r w c0).mono ?_; rintro e w' ⟨rfl, rfl⟩)
  go_ret
  exact ⟨rfl, rfl⟩

set_option maxHeartbeats 1000000 in
theorem r4len_nil (w : World) :
    Calls Try.prog 79 #[.pointer none] w (Ret (.int .i64 0) w) := by
  go_enter Try.func79, Try.ntmps79
  go_wp2_with (go_at_call 86; refine (r4valid_nil w).mono ?_; rintro e w' ⟨rfl, rfl⟩)
  go_ret
  exact ⟨rfl, rfl⟩

set_option maxHeartbeats 2000000 in
theorem without_ok (w : World) (L : List Ent) (v : Value) (h : w.ownsRow 0 28 2 v L.length (ents L)) (hlen : L.length ≤ 65536) (kk : Int) :
    Calls Try.prog 88 #[v, .int .i64 kk] w (RRow w (wo kk L L.length)) := by
  have HO := Lib.hid h
  obtain ⟨ao, cap, rfl, hcells⟩ := erow_form h
  obtain ⟨n, hn⟩ : ∃ n, n = L.length := ⟨_, rfl⟩
  rw [← hn] at hlen
  have HN := Lib.hid hn
  have HC := Lib.hid hcells
  clear hn h hcells
  rw [← HN.out]
  go_enter Try.func88, Try.ntmps88
  go_wp2_with fail
  go_loopw [5, 6] (fun s5 s6 wr => ∃ k : Nat, k ≤ n ∧ s6 = .int .i64 k ∧ ENewRow w (wo kk L k) s5 wr) (fun _ s6 _ => n - (intOf s6).toNat)
  case atStart => exact ⟨0, by omega, rfl, World.ownsRow_nil _ _ _ _, Below.refl _ _, by simp [Value.ownBlock]⟩
  case round =>
    obtain ⟨k, hk, rfl, hrow⟩ := hrel
    have HR := Lib.hid hrow
    obtain ⟨oo, oc, rfl⟩ := owns_slice hrow.own
    clear hrow
    have hwl := wo_length kk L k
    by_cases hlt : k < n
    · obtain ⟨b, rfl, hb, hc1, hc2, hc⟩ := HC.out (by rw [← HN.out]; omega)
      obtain ⟨k0', k1'⟩ := hc k (by rw [← HN.out]; exact hlt)
      have k0 := (HR.out.bel.cell hb).trans k0'
      have k1 := (HR.out.bel.cell hb).trans k1'
      have hb := Nat.lt_of_lt_of_le hb HR.out.bel.size
      clear k0' k1'
      rw [← HN.out] at hc1
      unfold maxLen at hc2
      clear hc
      by_cases he : (k : Int) = kk
      · have HE := Lib.hid (wo_skip (L := L) he)
        have t1 : ((k : Int) != kk) = false := by simp [he]
        clear he
        go_wp2_with fail
        go_roundw
        case rel => exact ⟨k + 1, by omega, by go_num, by rw [HE.out]; exact HR.out⟩
        case measure => simp [intOf]; omega
      · have HE := Lib.hid (wo_take (L := L) he)
        have t1 : ((k : Int) != kk) = true := by simp [he]
        clear he
        have k0' : (wr.alloc (.cells #[.int .i64 (ent L k).1, .int .i64 (ent L k).2] 28)).cell? ⟨b, k * 2, none⟩ = some (.int .i64 (ent L k).1) := by rw [World.cell?_alloc_lt _ _ _ hb]; exact k0
        have hb2 : Below wr.heap.size wr (wr.alloc (.cells #[.int .i64 (ent L k).1, .int .i64 (ent L k).2] 28)) := (Below.refl _ _).alloc (Nat.le_refl _) _
        have HB2 := Lib.hid hb2
        have hnews := Lib.hid (news_new wr 28 [.int .i64 (ent L k).1, .int .i64 (ent L k).2])
        have hown := Lib.hid (HR.out.below hb2).own
        clear k0' hb2
        go_wp2_with (at_builtin; with_reducible refine wpList_appendB 28 (.agg #[.int .i64 0, .int .i64 0]) 2 16 Try.underlying68 Try.infoEntry rfl (by decide) (.slice oo (wo kk L k).length oc) (wo kk L k).length (ents (wo kk L k)) rfl hown.out ⟨wr.heap.size, 0, none⟩ 1 1 [.int .i64 (ent L k).1, .int .i64 (ent L k).2] rfl rfl hnews.out (by simp [Value.oneCell']) (by unfold maxLen; omega) (by omega) ?_)
        intro v' w2 ho hg hk2
        have HR2 := Lib.hid (HR.out.more HB2.out ho hg hk2)
        clear ho hg hk2 hown hnews HB2 k0 k1
        go_wp2_with fail
        go_roundw
        case rel => exact ⟨k + 1, by omega, by go_num, by rw [HE.out]; exact HR2.out⟩
        case measure => simp [intOf]; omega
    · obtain rfl : k = n := by omega
      go_wp2_with fail
      go_ret
      exact ⟨_, rfl, HR.out⟩

set_option maxHeartbeats 1000000 in
theorem before_ok (a b : Ent) (w : World) : Calls Try.prog 96 #[.agg #[.int .i64 a.1, .int .i64 a.2], .agg #[.int .i64 b.1, .int .i64 b.2]] w (RetB (.bool (decide (elt a b))) w) := by
  have HB : Hid (Below w.heap.size w ((w.alloc (.cells #[.int .i64 a.1, .int .i64 a.2] 28)).alloc (.cells #[.int .i64 b.1, .int .i64 b.2] 28))) := ((Below.refl _ _).alloc (Nat.le_refl _) _).alloc (by simp) _
  have hcase : (decide (elt a b) = true ∧ decide (a.2 < b.2) = true) ∨ (decide (elt a b) = true ∧ decide (a.2 < b.2) = false ∧ (a.2 == b.2) = true ∧ decide (a.1 < b.1) = true) ∨
      (decide (elt a b) = false ∧ decide (a.2 < b.2) = false ∧ (a.2 == b.2) = false) ∨ (decide (elt a b) = false ∧ decide (a.2 < b.2) = false ∧ (a.2 == b.2) = true ∧ decide (a.1 < b.1) = false) := by
    simp only [decide_eq_true_eq, decide_eq_false_iff_not, beq_iff_eq, beq_eq_false_iff_ne]
    unfold elt
    omega
  rcases hcase with ⟨h0, t1⟩ | ⟨h0, t1, t2, t3⟩ | ⟨h0, t1, t2⟩ | ⟨h0, t1, t2, t3⟩
  all_goals
    rw [h0]
    clear h0
    go_enter Try.func96, Try.ntmps96
    go_wp2
    go_ret
    exact ⟨rfl, HB.out⟩

set_option maxHeartbeats 1000000 in
theorem r4key_nil (w : World) (i : Int) : Calls Try.prog 78 #[.pointer none, .int .i64 i] w (Ret (.tuple #[.int .i64 0, .bool false]) w) := by
  go_enter Try.func78, Try.ntmps78
  go_wp2_with (go_at_call 86; refine (r4valid_nil w).mono ?_; rintro e w' ⟨rfl, rfl⟩)
  go_ret2
  exact ⟨rfl, rfl⟩

set_option maxHeartbeats 1000000 in
theorem r4key_none (w : World) (r slots : Nat) (L : List Ent) (v : Value) (h : R4Obj w r slots L v) (i : Int) (hn : rfind i L = -1) :
    Calls Try.prog 78 #[.pointer (some ⟨r, 0, none⟩), .int .i64 i] w (Ret (.tuple #[.int .i64 0, .bool false]) w) := by
  have HF : Hid (Calls Try.prog 87 #[.pointer (some ⟨r, 0, none⟩), .int .i64 i] w (Ret (.int .i64 (-1)) w)) := by rw [← hn]; exact r4find_ok w r slots L v h i
  have c0 := h.blk.cell (i := 0) rfl
  clear h hn
  go_enter Try.func78, Try.ntmps78
  go_wp2_with (first
    | (go_at_call 86; refine (r4valid_ok r w c0).mono ?_; rintro e w' ⟨rfl, rfl⟩)
    | (go_at_call 87; refine (HF.out).mono ?_; rintro e w' ⟨rfl, rfl⟩))
  go_ret2
  exact ⟨rfl, rfl⟩

set_option maxHeartbeats 1000000 in
theorem r4key_some (w : World) (r slots : Nat) (L : List Ent) (v : Value) (h : R4Obj w r slots L v) (i : Int) (p : Nat) (hp : p < L.length) (hf : rfind i L = (p : Int)) :
    Calls Try.prog 78 #[.pointer (some ⟨r, 0, none⟩), .int .i64 i] w (Ret (.tuple #[.int .i64 (ent L p).2, .bool true]) w) := by
  have HF : Hid (Calls Try.prog 87 #[.pointer (some ⟨r, 0, none⟩), .int .i64 i] w (Ret (.int .i64 p) w)) := by rw [← hf]; exact r4find_ok w r slots L v h i
  have c0 := h.blk.cell (i := 0) rfl
  obtain ⟨ao, cap, rfl, hcells⟩ := erow_form h.own
  obtain ⟨b, rfl, hb, hc1, hc2, hc⟩ := hcells (by omega)
  have kk := (hc p hp).2
  have c2 := h.blk.cell (i := 2) rfl
  have hlen := h.len
  unfold maxLen at hc2
  have hp0 : decide ((p : Int) < 0) = false := by simp
  clear h hf hc hcells
  generalize hn : L.length = n at *
  clear hn
  go_enter Try.func78, Try.ntmps78
  go_wp2_with (first
    | (go_at_call 86; refine (r4valid_ok r w c0).mono ?_; rintro e w' ⟨rfl, rfl⟩)
    | (go_at_call 87; refine (HF.out).mono ?_; rintro e w' ⟨rfl, rfl⟩))
  go_ret2
  exact ⟨rfl, rfl⟩

end Go.Proofs.Ytebclbpibafkdaa
