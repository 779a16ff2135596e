/- The reference of layer 4: Min, Push, Remove, Change, Pop, Copy. -/
import Derived.Test.YtebclbpibafkdaaR4B
import Derived.Test.YtebclbpibafkdaaDelP
namespace Go.Proofs.Ytebclbpibafkdaa
set_option linter.unusedVariables false
set_option linter.unusedSimpArgs false
open Go.RowKit

set_option maxHeartbeats 1000000 in
theorem r4min_nil (w : World) : Calls Try.prog 77 #[.pointer none] w (RetB (.tuple #[.agg #[.int .i64 0, .int .i64 0], .bool false]) w) := by
  have hb : Below w.heap.size w (w.alloc (.cells #[.int .i64 0, .int .i64 0] 28)) := (Below.refl _ _).alloc (Nat.le_refl _) _
  have HB := Lib.hid hb
  clear hb
  go_enter Try.func77, Try.ntmps77
  go_wp2_with (go_at_call 80; refine (r4list_nil _).mono ?_; rintro e w' ⟨rfl, rfl⟩)
  exact bodyPost_ret (v := .tuple #[.agg #[.int .i64 0, .int .i64 0], .bool false]) (by simp [results, Try.results77, go_sem]) rfl ⟨rfl, HB.out⟩

set_option maxHeartbeats 1000000 in
theorem r4min_any (w : World) (r slots : Nat) (L : List Ent) (v : Value) (h : R4Obj w r slots L v) (S : List Ent) (hs : Sorted S) (hp : S.Perm L) :
    Calls Try.prog 77 #[.pointer (some ⟨r, 0, none⟩)] w (RetB (headV S) w) := by
  have hb : Below w.heap.size w (w.alloc (.cells #[.int .i64 0, .int .i64 0] 28)) := (Below.refl _ _).alloc (Nat.le_refl _) _
  have hl6 : S.length ≤ 65536 := by rw [hp.length_eq]; exact h.len
  have HL := Lib.hid (r4list_ok _ r slots L v (h.below hb) S hs hp)
  have HB := Lib.hid hb
  have BX := Lib.hid (Blk.new w 28 [.int .i64 0, .int .i64 0])
  clear h hb hs hp
  go_enter Try.func77, Try.ntmps77
  go_wp2_with fail
  with_reducible refine (HL.out).mono ?_
  rintro e w1 ⟨u, rfl, hrow⟩
  obtain ⟨ao, cap, rfl, hcells⟩ := erow_form hrow.own
  have B1 := BX.out.below hrow.bel BX.out.lt
  have a0 := B1.cell (i := 0) rfl
  have a1 := B1.cell (i := 1) rfl
  have f0 := B1.free 0
  have f1 := B1.free 1
  have HB1 := Lib.hid (HB.out.trans (hrow.bel.mono HB.out.size))
  have BB := Lib.hid B1
  clear hrow HL B1
  cases S with
  | nil =>
    simp only [List.length_nil]
    clear hcells
    go_wp2_with fail
    have BW := (BB.out.set 0 (.int .i64 0)).set 1 (.int .i64 0)
    have d0 := BW.cell (i := 0) rfl
    have d1 := BW.cell (i := 1) rfl
    refine bodyPost_ret (v := .tuple #[.agg #[.int .i64 0, .int .i64 0], .bool false]) ?_ rfl ⟨rfl, ?_⟩
    · simp [results, Try.results77, go_sem, d0, d1]
    · exact (HB1.out.setCell (Nat.le_refl _) _).setCell (Nat.le_refl _) _
  | cons x l =>
    obtain ⟨b, rfl, hb, hc1, hc2, hc⟩ := hcells (by simp)
    obtain ⟨k0, k1⟩ := hc 0 (by simp)
    simp only [Nat.zero_mul, Nat.zero_add] at k0 k1
    have e0 : ent (x :: l) 0 = x := rfl
    rw [e0] at k0 k1
    unfold maxLen at hc2
    clear hc e0 hcells
    generalize hn : (x :: l).length = n at *
    have hn0 : 0 < n := by rw [← hn]; simp
    have t1 : ((n : Int) == 0) = false := beq_eq_false_iff_ne.2 (by omega)
    clear hn
    go_wp2_with fail
    have BW := (BB.out.set 0 (.int .i64 x.1)).set 1 (.int .i64 x.2)
    have d0 := BW.cell (i := 0) rfl
    have d1 := BW.cell (i := 1) rfl
    refine bodyPost_ret (v := .tuple #[.agg #[.int .i64 x.1, .int .i64 x.2], .bool true]) ?_ rfl ⟨rfl, ?_⟩
    · simp [results, Try.results77, go_sem, d0, d1]
    · exact (HB1.out.setCell (Nat.le_refl _) _).setCell (Nat.le_refl _) _

structure R4Done (x : Value) (w : World) (r slots : Nat) (L : List Ent) (v : Value) (e : Ending) (w' : World) : Prop where
  val : e = .returned x
  out : ∃ u, R4Obj w' r slots L u ∧ Mod (fun k => k = r ∨ v.ownBlock = some k) w w' ∧ ∀ k, u.ownBlock = some k → v.ownBlock = some k ∨ w.heap.size ≤ k

theorem R4Done.same {w : World} {r slots : Nat} {L : List Ent} {v : Value} (h : R4Obj w r slots L v) (x : Value) : R4Done x w r slots L v (.returned x) w :=
  ⟨rfl, v, h, Mod.refl _ _, fun k hk => .inl hk⟩

theorem R4Obj.stored {w w1 : World} {r slots : Nat} {L L' : List Ent} {v v' : Value} (h : R4Obj w r slots L v) (hrow : ENewRow w L' v' w1) (hl : L'.length ≤ 65536) (x : Value) :
    R4Done x w r slots L' v (.returned x) (w1.setCell ⟨r, 2, none⟩ v') := by
  have hlt := h.blk.lt
  have hne : v'.ownBlock ≠ some r := fun e => by have := hrow.new r e; omega
  refine ⟨rfl, v', ⟨(h.blk.below hrow.bel hlt).set 2 v', owns_same hrow.own (fun k hk => Below.heap_setCell _ _ _ _ (fun e => hne (by have e' : k = r := e; rw [← e']; exact hk))), hne, hl⟩, (Mod.of_below (F := fun k => k = r ∨ v.ownBlock = some k) hrow.bel).setCell _ (fun _ => .inl rfl) _, fun k hk => .inr (hrow.new k hk)⟩

set_option maxHeartbeats 1000000 in
theorem r4push_nil (w : World) (i key : Int) : Calls Try.prog 52 #[.pointer none, .int .i64 i, .int .i64 key] w (Ret (.int .i64 1) w) := by
  go_enter Try.func52, Try.ntmps52
  go_wp2_with (go_at_call 86; refine (r4valid_nil w).mono ?_; rintro e w' ⟨rfl, rfl⟩)
  go_ret
  exact ⟨rfl, rfl⟩

set_option maxHeartbeats 1000000 in
theorem r4remove_nil (w : World) (i : Int) : Calls Try.prog 54 #[.pointer none, .int .i64 i] w (Ret (.int .i64 1) w) := by
  go_enter Try.func54, Try.ntmps54
  go_wp2_with (go_at_call 86; refine (r4valid_nil w).mono ?_; rintro e w' ⟨rfl, rfl⟩)
  go_ret
  exact ⟨rfl, rfl⟩

set_option maxHeartbeats 1000000 in
theorem r4change_nil (w : World) (i key : Int) : Calls Try.prog 53 #[.pointer none, .int .i64 i, .int .i64 key] w (Ret (.int .i64 1) w) := by
  go_enter Try.func53, Try.ntmps53
  go_wp2_with (go_at_call 54; refine (r4remove_nil w i).mono ?_; rintro e w' ⟨rfl, rfl⟩)
  go_ret
  exact ⟨rfl, rfl⟩

set_option maxHeartbeats 1000000 in
theorem r4copy_nil (w : World) : Calls Try.prog 56 #[.pointer none] w (Ret (.pointer none) w) := by
  go_enter Try.func56, Try.ntmps56
  go_wp2_with (go_at_call 86; refine (r4valid_nil w).mono ?_; rintro e w' ⟨rfl, rfl⟩)
  go_ret
  exact ⟨rfl, rfl⟩

set_option maxHeartbeats 1000000 in
theorem r4push_range (w : World) (r slots : Nat) (L : List Ent) (v : Value) (h : R4Obj w r slots L v) (i key : Int) (hi : ¬ (0 ≤ i ∧ i < slots)) :
    Calls Try.prog 52 #[.pointer (some ⟨r, 0, none⟩), .int .i64 i, .int .i64 key] w (Ret (.int .i64 3) w) := by
  have c0 := h.blk.cell (i := 0) rfl
  have c1 := h.blk.cell (i := 1) rfl
  clear h
  by_cases hs : i < 0
  · have t1 : decide (i < 0) = true := by simp; omega
    go_enter Try.func52, Try.ntmps52
    go_wp2_with (go_at_call 86; refine (r4valid_ok r w c0).mono ?_; rintro e w' ⟨rfl, rfl⟩)
    go_ret
    exact ⟨rfl, rfl⟩
  · have t1 : decide (i < 0) = false := by simp; omega
    have t2 : decide ((slots : Int) ≤ i) = true := by simp; omega
    go_enter Try.func52, Try.ntmps52
    go_wp2_with (go_at_call 86; refine (r4valid_ok r w c0).mono ?_; rintro e w' ⟨rfl, rfl⟩)
    go_ret
    exact ⟨rfl, rfl⟩

set_option maxHeartbeats 1000000 in
theorem r4remove_range (w : World) (r slots : Nat) (L : List Ent) (v : Value) (h : R4Obj w r slots L v) (i : Int) (hi : ¬ (0 ≤ i ∧ i < slots)) :
    Calls Try.prog 54 #[.pointer (some ⟨r, 0, none⟩), .int .i64 i] w (Ret (.int .i64 3) w) := by
  have c0 := h.blk.cell (i := 0) rfl
  have c1 := h.blk.cell (i := 1) rfl
  clear h
  by_cases hs : i < 0
  · have t1 : decide (i < 0) = true := by simp; omega
    go_enter Try.func54, Try.ntmps54
    go_wp2_with (go_at_call 86; refine (r4valid_ok r w c0).mono ?_; rintro e w' ⟨rfl, rfl⟩)
    go_ret
    exact ⟨rfl, rfl⟩
  · have t1 : decide (i < 0) = false := by simp; omega
    have t2 : decide ((slots : Int) ≤ i) = true := by simp; omega
    go_enter Try.func54, Try.ntmps54
    go_wp2_with (go_at_call 86; refine (r4valid_ok r w c0).mono ?_; rintro e w' ⟨rfl, rfl⟩)
    go_ret
    exact ⟨rfl, rfl⟩

set_option maxHeartbeats 1000000 in
theorem r4push_have (w : World) (r slots : Nat) (L : List Ent) (v : Value) (h : R4Obj w r slots L v) (i key : Int) (h0 : 0 ≤ i) (h1 : i < slots) (p : Nat) (hf : rfind i L = (p : Int)) :
    Calls Try.prog 52 #[.pointer (some ⟨r, 0, none⟩), .int .i64 i, .int .i64 key] w (Ret (.int .i64 6) w) := by
  have HF : Hid (Calls Try.prog 87 #[.pointer (some ⟨r, 0, none⟩), .int .i64 i] w (Ret (.int .i64 p) w)) := by rw [← hf]; exact r4find_ok w r slots L v h i
  have c0 := h.blk.cell (i := 0) rfl
  have c1 := h.blk.cell (i := 1) rfl
  have t1 : decide (i < 0) = false := by simp; omega
  have t2 : decide ((slots : Int) ≤ i) = false := by simp; omega
  have t3 : decide ((0 : Int) ≤ (p : Int)) = true := by simp
  clear h hf
  go_enter Try.func52, Try.ntmps52
  go_wp2_with (first
    | (go_at_call 86; refine (r4valid_ok r w c0).mono ?_; rintro e w' ⟨rfl, rfl⟩)
    | (go_at_call 87; refine (HF.out).mono ?_; rintro e w' ⟨rfl, rfl⟩))
  go_ret
  exact ⟨rfl, rfl⟩

set_option maxHeartbeats 1000000 in
theorem r4remove_none (w : World) (r slots : Nat) (L : List Ent) (v : Value) (h : R4Obj w r slots L v) (i : Int) (h0 : 0 ≤ i) (h1 : i < slots) (hf : rfind i L = -1) :
    Calls Try.prog 54 #[.pointer (some ⟨r, 0, none⟩), .int .i64 i] w (Ret (.int .i64 5) w) := by
  have HF : Hid (Calls Try.prog 87 #[.pointer (some ⟨r, 0, none⟩), .int .i64 i] w (Ret (.int .i64 (-1)) w)) := by rw [← hf]; exact r4find_ok w r slots L v h i
  have c0 := h.blk.cell (i := 0) rfl
  have c1 := h.blk.cell (i := 1) rfl
  have t1 : decide (i < 0) = false := by simp; omega
  have t2 : decide ((slots : Int) ≤ i) = false := by simp; omega
  clear h hf
  go_enter Try.func54, Try.ntmps54
  go_wp2_with (first
    | (go_at_call 86; refine (r4valid_ok r w c0).mono ?_; rintro e w' ⟨rfl, rfl⟩)
    | (go_at_call 87; refine (HF.out).mono ?_; rintro e w' ⟨rfl, rfl⟩))
  go_ret
  exact ⟨rfl, rfl⟩

set_option maxHeartbeats 1000000 in
theorem r4remove_some (w : World) (r slots : Nat) (L : List Ent) (v : Value) (h : R4Obj w r slots L v) (i : Int) (h0 : 0 ≤ i) (h1 : i < slots) (p : Nat) (hp : p < L.length) (hf : rfind i L = (p : Int)) :
    Calls Try.prog 54 #[.pointer (some ⟨r, 0, none⟩), .int .i64 i] w (R4Done (.int .i64 0) w r slots (wo (p : Int) L L.length) v) := by
  have HF : Hid (Calls Try.prog 87 #[.pointer (some ⟨r, 0, none⟩), .int .i64 i] w (Ret (.int .i64 p) w)) := by rw [← hf]; exact r4find_ok w r slots L v h i
  have HH := Lib.hid h
  have c0 := h.blk.cell (i := 0) rfl
  have c1 := h.blk.cell (i := 1) rfl
  have c2 := h.blk.cell (i := 2) rfl
  obtain ⟨ao, cap, rfl⟩ := owns_slice h.own
  have HW := Lib.hid (without_ok w L _ h.own h.len p)
  have t1 : decide (i < 0) = false := by simp; omega
  have t2 : decide ((slots : Int) ≤ i) = false := by simp; omega
  have t3 : decide ((p : Int) < 0) = false := by simp
  clear h hf
  go_enter Try.func54, Try.ntmps54
  go_wp2_with (first
    | (go_at_call 86; refine (r4valid_ok r w c0).mono ?_; rintro e w' ⟨rfl, rfl⟩)
    | (go_at_call 87; refine (HF.out).mono ?_; rintro e w' ⟨rfl, rfl⟩))
  with_reducible refine (HW.out).mono ?_
  rintro e w1 ⟨v', rfl, hrow⟩
  obtain ⟨ao', cp', rfl⟩ := owns_slice hrow.own
  have FIN := Lib.hid (HH.out.stored hrow (Nat.le_trans (wo_length _ _ _) HH.out.len) (.int .i64 0))
  have B := HH.out.blk.below hrow.bel HH.out.blk.lt
  have d2 := B.cell (i := 2) rfl
  have f2 := B.free 2
  clear hrow B c0 c1 c2
  go_wp2_with fail
  go_ret
  exact FIN.out

/-- An entry more, in the same row or in a new one. -/
theorem R4Obj.more {w w1 w2 : World} {r slots : Nat} {L : List Ent} {v v' : Value} (h : R4Obj w r slots L v) (hb : Below w.heap.size w w1) {x : Ent} (hl : L.length + 1 ≤ 65536)
    (ho : w2.ownsRow 0 28 2 v' (L.length + 1) (ents L ++ [.int .i64 x.1, .int .i64 x.2])) (hg : w1.grownBy w2 v.ownBlock) (hk : ∀ k, v'.ownBlock = some k → v.ownBlock = some k ∨ w1.heap.size ≤ k) (y : Value) :
    Blk w2 r 106 [.bool true, .int .i64 (slots : Nat), v] ∧ R4Done y w r slots (L ++ [x]) v (.returned y) (w2.setCell ⟨r, 2, none⟩ v') := by
  have hlt := h.blk.lt
  have hs1 := hb.size
  have B1 := h.blk.below hb hlt
  have B2 : Blk w2 r 106 [.bool true, .int .i64 (slots : Nat), v] := by
    unfold Blk
    rw [hg.block r B1.lt (fun e => h.ne e.symm)]
    exact B1
  have hne : v'.ownBlock ≠ some r := fun e => by
    rcases hk r e with h1 | h1
    · exact h.ne h1
    · omega
  refine ⟨B2, rfl, v', ⟨B2.set 2 v', ?_, hne, by rw [List.length_append]; exact hl⟩, ?_, fun k e => ?_⟩
  · have e1 : ents (L ++ [x]) = ents L ++ [.int .i64 x.1, .int .i64 x.2] := by rw [ents_append]; rfl
    rw [e1, List.length_append]
    exact owns_same ho (fun k hk => Below.heap_setCell _ _ _ _ (fun e => hne (by have e' : k = r := e; rw [← e']; exact hk)))
  · exact ((Mod.of_below (F := fun k => k = r ∨ v.ownBlock = some k) hb).grown hg (fun k hk _ => .inr hk)).setCell _ (fun _ => .inl rfl) _
  · rcases hk k e with h1 | h1
    · exact .inl h1
    · exact .inr (by omega)

set_option maxHeartbeats 1000000 in
theorem r4push_ok (w : World) (r slots : Nat) (L : List Ent) (v : Value) (h : R4Obj w r slots L v) (i key : Int) (h0 : 0 ≤ i) (h1 : i < slots) (hf : rfind i L = -1) (hl : L.length < 65536) :
    Calls Try.prog 52 #[.pointer (some ⟨r, 0, none⟩), .int .i64 i, .int .i64 key] w (R4Done (.int .i64 0) w r slots (L ++ [(i, key)]) v) := by
  have HF : Hid (Calls Try.prog 87 #[.pointer (some ⟨r, 0, none⟩), .int .i64 i] w (Ret (.int .i64 (-1)) w)) := by rw [← hf]; exact r4find_ok w r slots L v h i
  have HH := Lib.hid h
  have c0 := h.blk.cell (i := 0) rfl
  have c1 := h.blk.cell (i := 1) rfl
  have c2 := h.blk.cell (i := 2) rfl
  obtain ⟨ao, cap, rfl⟩ := owns_slice h.own
  have t1 : decide (i < 0) = false := by simp; omega
  have t2 : decide ((slots : Int) ≤ i) = false := by simp; omega
  have hb : Below w.heap.size w (w.alloc (.cells #[.int .i64 i, .int .i64 key] 28)) := (Below.refl _ _).alloc (Nat.le_refl _) _
  have HB := Lib.hid hb
  have hown := Lib.hid (h.own.alloc (.cells #[.int .i64 i, .int .i64 key] 28))
  have hnews := Lib.hid (news_new w 28 [.int .i64 i, .int .i64 key])
  clear h hf hb
  generalize hn : L.length = n at *
  have HN := Lib.hid hn
  clear hn
  go_enter Try.func52, Try.ntmps52
  go_wp2_with (first
    | (go_at_call 86; refine (r4valid_ok r w c0).mono ?_; rintro e w' ⟨rfl, rfl⟩)
    | (go_at_call 87; refine (HF.out).mono ?_; rintro e w' ⟨rfl, rfl⟩)
    | (at_builtin; apply keepIt2))
  apply Lib.hid
  refine wpList_appendB 28 (.agg #[.int .i64 0, .int .i64 0]) 2 16 Try.underlying68 Try.infoEntry rfl (by decide) (.slice ao n cap) n (ents L) rfl hown.out ⟨w.heap.size, 0, none⟩ 1 1 [.int .i64 i, .int .i64 key] rfl rfl hnews.out (by simp [Value.oneCell']) (by unfold maxLen; omega) (by omega) ?_
  intro v' w2 ho hg hk
  obtain ⟨ao', cp', hv'⟩ := owns_slice ho
  subst hv'
  obtain ⟨B2, FIN0⟩ := HH.out.more (x := (i, key)) HB.out (by rw [HN.out]; omega) (by rw [HN.out]; exact ho) (by exact hg) (by exact hk) (.int .i64 0)
  have FIN := Lib.hid FIN0
  have d2 := B2.cell (i := 2) rfl
  have f2 := B2.free 2
  clear B2 FIN0 ho hg hk hown hnews c0 c1 c2
  go_wp2_with fail
  go_ret
  exact FIN.out

end Go.Proofs.Ytebclbpibafkdaa
