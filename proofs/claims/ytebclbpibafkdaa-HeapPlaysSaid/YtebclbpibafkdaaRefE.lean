/- The reference of layer 35: its object, New, valid, check, find, without, Next, Len, Left, Drop. -/
import Derived.Test.YtebclbpibafkdaaRefP
import Derived.Test.YtebclbpibafkdaaExpM
namespace Go.Proofs.Ytebclbpibafkdaa
set_option linter.unusedVariables false
set_option linter.unusedSimpArgs false
open Go.RowKit

/-- The reference's schedule: its block, its slots, its entries. -/
structure RObj (w : World) (r slots : Nat) (L : List Ent) (v : Value) : Prop where
  blk : Blk w r 100 [.bool true, .int .i64 (slots : Nat), v]
  own : w.ownsRow 0 28 2 v L.length (ents L)
  ne : v.ownBlock ≠ some r
  len : L.length ≤ 65536

theorem RObj.below {w w' : World} {r slots : Nat} {L : List Ent} {v : Value} (h : RObj w r slots L v) (k : Below w.heap.size w w') : RObj w' r slots L v :=
  ⟨h.blk.below k h.blk.lt, owns_same h.own (fun x hx => k.block x (h.own.lt x hx).2), h.ne, h.len⟩

theorem RObj.mod {F : Nat → Prop} {w w' : World} {r slots : Nat} {L : List Ent} {v : Value} (h : RObj w r slots L v) (m : Mod F w w') (h1 : ¬ F r) (h2 : ∀ x, v.ownBlock = some x → ¬ F x) : RObj w' r slots L v :=
  ⟨h.blk.mod m h1, owns_same h.own (fun x hx => m.block x (h.own.lt x hx).2 (h2 x hx)), h.ne, h.len⟩

theorem RObj.lt {w : World} {r slots : Nat} {L : List Ent} {v : Value} (h : RObj w r slots L v) : ∀ k, (k = r ∨ v.ownBlock = some k) → k < w.heap.size := by
  rintro k (rfl | hk)
  · exact h.blk.lt
  · exact (h.own.lt k hk).2

/-- A row of entries that was made since w. -/
structure ENewRow (w : World) (L : List Ent) (v : Value) (wr : World) : Prop where
  own : wr.ownsRow 0 28 2 v L.length (ents L)
  bel : Below w.heap.size w wr
  new : ∀ k, v.ownBlock = some k → w.heap.size ≤ k

structure RRow (w : World) (L : List Ent) (e : Ending) (w' : World) : Prop where
  out : ∃ v, e = .returned v ∧ ENewRow w L v w'

theorem ENewRow.below {w wr w' : World} {L : List Ent} {v : Value} (h : ENewRow w L v wr) (k : Below wr.heap.size wr w') : ENewRow w L v w' :=
  ⟨owns_same h.own (fun x hx => k.block x (h.own.lt x hx).2), h.bel.trans (k.mono h.bel.size), h.new⟩

/-- An entry more. -/
theorem ENewRow.more {w wr w1 w2 : World} {L : List Ent} {v v' : Value} (h : ENewRow w L v wr) (hb : Below wr.heap.size wr w1) {x : Ent}
    (ho : w2.ownsRow 0 28 2 v' (L.length + 1) (ents L ++ [.int .i64 x.1, .int .i64 x.2])) (hg : w1.grownBy w2 v.ownBlock) (hk : ∀ k, v'.ownBlock = some k → v.ownBlock = some k ∨ w1.heap.size ≤ k) :
    ENewRow w (L ++ [x]) v' w2 := by
  have hsz := h.bel.size
  have hsz1 := hb.size
  refine ⟨?_, ?_, fun k e => ?_⟩
  · have : ents (L ++ [x]) = ents L ++ [.int .i64 x.1, .int .i64 x.2] := by rw [ents_append]; rfl
    rw [this, List.length_append]; exact ho
  · exact (h.bel.trans (hb.mono hsz)).trans (((Mod.refl (fun k => v.ownBlock = some k) w1).grown hg (fun k hk _ => hk)).below (by omega) h.new)
  · rcases hk k e with h1 | h1
    · exact h.new k h1
    · omega

set_option maxHeartbeats 400000 in
theorem rvalid_ok (r : Nat) (w : World) (c0 : w.cell? ⟨r, 0, none⟩ = some (.bool true)) :
    Calls Try.prog 73 #[.pointer (some ⟨r, 0, none⟩)] w (Ret (.bool true) w) := by
  go_enter Try.func73, Try.ntmps73
  go_wp2
  go_ret
  exact ⟨rfl, rfl⟩

set_option maxHeartbeats 400000 in
theorem rvalid_nil (w : World) : Calls Try.prog 73 #[.pointer none] w (Ret (.bool false) w) := by
  go_enter Try.func73, Try.ntmps73
  go_wp2
  go_ret
  exact ⟨rfl, rfl⟩

set_option maxHeartbeats 400000 in
theorem rnew_low (n : Int) (w : World) (h : n < 0 ∨ 65536 < n) : Calls Try.prog 31 #[.int .i64 n] w (Ret (.tuple #[.pointer none, .int .i64 2]) w) := by
  rcases h with h | h
  · have t1 : decide (n < 0) = true := by simp; omega
    go_enter Try.func31, Try.ntmps31
    go_wp2
    go_ret2
    exact ⟨rfl, rfl⟩
  · have t1 : decide (n < 0) = false := by simp; omega
    go_enter Try.func31, Try.ntmps31
    go_wp2
    go_ret2
    exact ⟨rfl, rfl⟩

structure RNew (n : Nat) (w : World) (e : Ending) (w' : World) : Prop where
  bel : Below w.heap.size w w'
  out : ∃ r v, RObj w' r n [] v ∧ w.heap.size ≤ r ∧ (∀ k, v.ownBlock = some k → w.heap.size ≤ k) ∧ e = .returned (.tuple #[.pointer (some ⟨r, 0, none⟩), .int .i64 0])

set_option maxHeartbeats 400000 in
theorem rnew_ok (n : Nat) (w : World) (h : n ≤ 65536) : Calls Try.prog 31 #[.int .i64 n] w (RNew n w) := by
  have hb : Below w.heap.size w (w.alloc (.cells #[.bool true, .int .i64 (n : Nat), .slice none 0 0] 100)) := (Below.refl _ _).alloc (Nat.le_refl _) _
  have HB := Lib.hid hb
  have HN := Lib.hid (Blk.new w 100 [.bool true, .int .i64 (n : Nat), .slice none 0 0])
  clear hb
  go_enter Try.func31, Try.ntmps31
  go_wp2
  go_ret2
  exact ⟨HB.out, _, _, ⟨HN.out, World.ownsRow_nil _ _ _ _, by simp [Value.ownBlock], by simp⟩, Nat.le_refl _, by simp [Value.ownBlock], rfl⟩

set_option maxHeartbeats 400000 in
theorem rcheck_ok (w : World) (r slots : Nat) (L : List Ent) (v : Value) (h : RObj w r slots L v) (slot : Int) (h0 : 0 ≤ slot) (h1 : slot < slots) :
    Calls Try.prog 70 #[.pointer (some ⟨r, 0, none⟩), .int .i64 slot] w (Ret (.int .i64 0) w) := by
  have c0 := h.blk.cell (i := 0) rfl
  have c1 := h.blk.cell (i := 1) rfl
  clear h
  have t1 : decide (slot < 0) = false := by simp; omega
  have t2 : decide ((slots : Int) ≤ slot) = false := by simp; omega
  go_enter Try.func70, Try.ntmps70
  go_wp2_with (go_at_call 73; refine (rvalid_ok r w c0).mono ?_; rintro e w' ⟨rfl, rfl⟩)
  go_ret
  exact ⟨rfl, rfl⟩

set_option maxHeartbeats 400000 in
theorem rcheck_range (w : World) (r slots : Nat) (L : List Ent) (v : Value) (h : RObj w r slots L v) (slot : Int) (hi : ¬ (0 ≤ slot ∧ slot < slots)) :
    Calls Try.prog 70 #[.pointer (some ⟨r, 0, none⟩), .int .i64 slot] w (Ret (.int .i64 3) w) := by
  have c0 := h.blk.cell (i := 0) rfl
  have c1 := h.blk.cell (i := 1) rfl
  clear h
  by_cases hs : slot < 0
  · have t1 : decide (slot < 0) = true := by simp; omega
    go_enter Try.func70, Try.ntmps70
    go_wp2_with (go_at_call 73; refine (rvalid_ok r w c0).mono ?_; rintro e w' ⟨rfl, rfl⟩)
    go_ret
    exact ⟨rfl, rfl⟩
  · have t1 : decide (slot < 0) = false := by simp; omega
    have t2 : decide ((slots : Int) ≤ slot) = true := by simp; omega
    go_enter Try.func70, Try.ntmps70
    go_wp2_with (go_at_call 73; refine (rvalid_ok r w c0).mono ?_; rintro e w' ⟨rfl, rfl⟩)
    go_ret
    exact ⟨rfl, rfl⟩

set_option maxHeartbeats 400000 in
theorem rcheck_nil (w : World) (slot : Int) :
    Calls Try.prog 70 #[.pointer none, .int .i64 slot] w (Ret (.int .i64 1) w) := by
  go_enter Try.func70, Try.ntmps70
  go_wp2_with (go_at_call 73; refine (rvalid_nil w).mono ?_; rintro e w' ⟨rfl, rfl⟩)
  go_ret
  exact ⟨rfl, rfl⟩

/-- What the walk reads of a row of entries: the slice's value and its cells. -/
theorem erow_form {w : World} {v : Value} {L : List Ent} (h : w.ownsRow 0 28 2 v L.length (ents L)) :
    ∃ ao cap, v = .slice ao L.length cap ∧ (0 < L.length → ∃ b, ao = some ⟨b, 0, none⟩ ∧ b < w.heap.size ∧ L.length ≤ cap ∧ cap ≤ maxLen ∧ ∀ i, i < L.length → w.cell? ⟨b, i * 2, none⟩ = some (.int .i64 (ent L i).1) ∧ w.cell? ⟨b, i * 2 + 1, none⟩ = some (.int .i64 (ent L i).2)) := by
  obtain ⟨ao, cap, rfl⟩ := owns_slice h
  refine ⟨ao, cap, rfl, fun hn => ?_⟩
  obtain ⟨g, cap', hv, h1, h2, h3, h4, _⟩ := owns_form h hn
  injection hv with e1 _ e3
  subst e1; subst e3
  refine ⟨g, rfl, h3, h1, h2, fun i hi => ⟨?_, ?_⟩⟩
  · rw [h4 _ (by omega), ents_get0 L i hi]
  · rw [h4 _ (by omega), ents_get1 L i hi]

set_option maxHeartbeats 1000000 in
theorem rfind_ok (w : World) (r slots : Nat) (L : List Ent) (v : Value) (h : RObj w r slots L v) (slot : Int) :
    Calls Try.prog 72 #[.pointer (some ⟨r, 0, none⟩), .int .i64 slot] w (Ret (.int .i64 (rfind slot L)) w) := by
  obtain ⟨ao, cap, rfl, hcells⟩ := erow_form h.own
  have c2 := h.blk.cell (i := 2) rfl
  have hlen := h.len
  have HC := Lib.hid hcells
  clear h hcells
  obtain ⟨n, hn⟩ : ∃ n, n = L.length := ⟨_, rfl⟩
  rw [← hn] at c2 hlen
  have HN := Lib.hid hn
  clear hn
  go_enter Try.func72, Try.ntmps72
  go_wp2_with fail
  go_loop [5] (fun s5 => ∃ k : Nat, k ≤ n ∧ s5 = .int .i64 k ∧ Hid (∀ j, j < k → (ent L j).1 ≠ slot)) (fun s5 => n - (intOf s5).toNat)
  case atStart => exact ⟨0, by omega, rfl, fun j hj => by omega⟩
  case round =>
    obtain ⟨k, hk, rfl, HF⟩ := hrel
    by_cases hlt : k < n
    · obtain ⟨b, rfl, hb, hc1, hc2, hc⟩ := HC.out (by rw [← HN.out]; omega)
      have k0 := (hc k (by rw [← HN.out]; exact hlt)).1
      rw [← HN.out] at hc1
      unfold maxLen at hc2
      clear hc
      by_cases he : (ent L k).1 = slot
      · have HE := Lib.hid (rfind_at (by rw [← HN.out]; exact hlt) he HF.out)
        have t1 : ((ent L k).1 == slot) = true := by simp [he]
        clear he
        go_wp2_with fail
        go_ret
        exact ⟨ret_int HE.out.symm, rfl⟩
      · have t1 : ((ent L k).1 == slot) = false := by simp [he]
        have HE := Lib.hid he
        clear he
        go_wp2_with fail
        go_round
        case rel => exact ⟨k + 1, by omega, by go_num, fun j hj => by
          by_cases e : j = k
          · subst e; exact HE.out
          · exact HF.out j (by omega)⟩
        case measure => simp [intOf]; omega
    · obtain rfl : k = n := by omega
      go_wp2_with fail
      go_ret
      exact ⟨ret_int (rfind_no (by rw [← HN.out]; exact HF.out)).symm, rfl⟩

set_option maxHeartbeats 2000000 in
theorem rwithout_ok (w : World) (r slots : Nat) (L : List Ent) (v : Value) (h : RObj w r slots L v) (kk : Int) :
    Calls Try.prog 71 #[.pointer (some ⟨r, 0, none⟩), .int .i64 kk] w (RRow w (wo kk L L.length)) := by
  have HO := Lib.hid h
  have hlen := h.len
  obtain ⟨n, hn⟩ : ∃ n, n = L.length := ⟨_, rfl⟩
  rw [← hn] at hlen
  have HN := Lib.hid hn
  clear hn h
  rw [← HN.out]
  go_enter Try.func71, Try.ntmps71
  go_wp2_with fail
  go_loopw [5, 6] (fun s5 s6 wr => ∃ k : Nat, k ≤ n ∧ s6 = .int .i64 k ∧ ENewRow w (wo kk L k) s5 wr) (fun _ s6 _ => n - (intOf s6).toNat)
  case atStart => exact ⟨0, by omega, rfl, World.ownsRow_nil _ _ _ _, Below.refl _ _, by simp [Value.ownBlock]⟩
  case round =>
    obtain ⟨k, hk, rfl, hrow⟩ := hrel
    have hob := HO.out.below hrow.bel
    have c2 := hob.blk.cell (i := 2) rfl
    obtain ⟨ao, cap, rfl, hcells⟩ := erow_form hob.own
    rw [← HN.out] at c2
    have HR := Lib.hid hrow
    have HC := Lib.hid hcells
    obtain ⟨oo, oc, rfl⟩ := owns_slice hrow.own
    clear hob hrow hcells
    have hwl := wo_length kk L k
    by_cases hlt : k < n
    · obtain ⟨b, rfl, hb, hc1, hc2, hc⟩ := HC.out (by rw [← HN.out]; omega)
      obtain ⟨k0, k1⟩ := hc k (by rw [← HN.out]; exact hlt)
      rw [← HN.out] at hc1
      unfold maxLen at hc2
      clear hc
      by_cases he : (k : Int) = kk
      · have HE := Lib.hid (wo_skip (L := L) he)
        have t1 : ((k : Int) != kk) = false := by simp [he]
        clear he
        go_wp2_with fail
        go_roundw
        case rel => exact ⟨k + 1, by omega, by go_num, by rw [HE.out]; exact HR.out⟩
        case measure => simp [intOf]; omega
      · have HE := Lib.hid (wo_take (L := L) he)
        have t1 : ((k : Int) != kk) = true := by simp [he]
        clear he
        have k0' : (wr.alloc (.cells #[.int .i64 (ent L k).1, .int .i64 (ent L k).2] 28)).cell? ⟨b, k * 2, none⟩ = some (.int .i64 (ent L k).1) := by rw [World.cell?_alloc_lt _ _ _ hb]; exact k0
        have hb2 : Below wr.heap.size wr (wr.alloc (.cells #[.int .i64 (ent L k).1, .int .i64 (ent L k).2] 28)) := (Below.refl _ _).alloc (Nat.le_refl _) _
        have HB2 := Lib.hid hb2
        have hnews := Lib.hid (news_new wr 28 [.int .i64 (ent L k).1, .int .i64 (ent L k).2])
        have hown := Lib.hid (HR.out.below hb2).own
        clear k0' hb2
        go_wp2_with (at_builtin; with_reducible refine wpList_appendB 28 (.agg #[.int .i64 0, .int .i64 0]) 2 16 Try.underlying68 Try.infoEntry rfl (by decide) (.slice oo (wo kk L k).length oc) (wo kk L k).length (ents (wo kk L k)) rfl hown.out ⟨wr.heap.size, 0, none⟩ 1 1 [.int .i64 (ent L k).1, .int .i64 (ent L k).2] rfl rfl hnews.out (by simp [Value.oneCell']) (by unfold maxLen; omega) (by omega) ?_)
        intro v' w2 ho hg hk2
        have HR2 := Lib.hid (HR.out.more HB2.out ho hg hk2)
        clear ho hg hk2 hown hnews HB2 k0 k1
        go_wp2_with fail
        go_roundw
        case rel => exact ⟨k + 1, by omega, by go_num, by rw [HE.out]; exact HR2.out⟩
        case measure => simp [intOf]; omega
    · obtain rfl : k = n := by omega
      go_wp2_with fail
      go_ret
      exact ⟨_, rfl, HR.out⟩

end Go.Proofs.Ytebclbpibafkdaa
