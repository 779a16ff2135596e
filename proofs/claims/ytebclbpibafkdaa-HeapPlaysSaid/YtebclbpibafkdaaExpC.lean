/- The schedule's Set out of range, Drop, Left. -/
import Derived.Test.YtebclbpibafkdaaExpB
namespace Go.Proofs.Ytebclbpibafkdaa
set_option linter.unusedVariables false
set_option linter.unusedSimpArgs false
open Go.RowKit

def box3i (w : World) (s : Nat) (slot at' : Int) : World :=
  ((w.alloc (.cells #[.pointer (some ⟨s, 0, none⟩)] 34)).alloc (.cells #[.int .i64 slot] 3)).alloc (.cells #[.int .i64 at'] 2)

theorem box3i_below (w : World) (s : Nat) (slot at' : Int) : Below w.heap.size w (box3i w s slot at') :=
  (((Below.refl _ _).alloc (Nat.le_refl _) _).alloc (by simp) _).alloc (by simp; omega) _

set_option maxHeartbeats 1000000 in
set_option maxRecDepth 100000 in
theorem eset_range (w : World) (s slots : Nat) (S : List Ent) (q : Nat) (g : HG) (h : EObj w s slots S q g) (slot at' : Int) (hs : ¬ (0 ≤ slot ∧ slot < slots)) :
    Calls Try.prog 37 #[.pointer (some ⟨s, 0, none⟩), .int .i64 slot, .int .i64 at'] w (RetB (.int .i64 3) w) := by
  have hb := box3i_below w s slot at'
  have HW := Lib.hid (with_range_set _ s slots S q g (h.below hb) slot hs (.pointer (some ⟨w.heap.size, 0, none⟩)) (.pointer (some ⟨w.heap.size + 1, 0, none⟩)) (.pointer (some ⟨w.heap.size + 1 + 1, 0, none⟩)))
  have HB := Lib.hid hb
  clear h hb hs
  unfold box3i at HW HB
  go_enter Try.func37, Try.ntmps37
  go_wp2_with fail
  generalize hW : World.alloc (World.alloc (World.alloc w _) _) _ = W at HW HB ⊢
  clear hW
  with_reducible refine (HW.out).mono ?_
  rintro e w1 ⟨rfl, rfl⟩
  go_wp2_with fail
  go_ret
  exact ⟨rfl, HB.out⟩

set_option maxHeartbeats 1000000 in
theorem drop1_none (w : World) (p1 p2 : Value) : Calls Try.prog 68 #[.bool false, p1, p2] w (Ret (.int .i64 5) w) := by
  go_enter Try.func68, Try.ntmps68
  go_wp2_with fail
  go_ret
  exact ⟨rfl, rfl⟩

set_option maxHeartbeats 1000000 in
set_option maxRecDepth 100000 in
theorem drop1_some (w : World) (s slots : Nat) (S : List Ent) (q : Nat) (g : HG) (h : EObj w s slots S q g) (b1 b2 slot : Nat) (hs : slot < slots)
    (c1 : w.cell? ⟨b1, 0, none⟩ = some (.pointer (some ⟨s, 0, none⟩))) (c2 : w.cell? ⟨b2, 0, none⟩ = some (.int .i64 slot)) (k : Int) (hk : ((slot : Int), k) ∈ S) :
    Calls Try.prog 68 #[.bool true, .pointer (some ⟨b1, 0, none⟩), .pointer (some ⟨b2, 0, none⟩)] w
      (HDone (.int .i64 0) w q slots (del (slot : Int) S) g) := by
  have c4 := h.blk.cell (i := 1) rfl
  have HO0 := Lib.hid h.obj
  have HK := Lib.hid hk
  clear h hk
  go_enter Try.func68, Try.ntmps68
  go_wp2_with fail
  refine region_tail 5 (by kernel_rfl) (by kernel_rfl) ?_
  intro w2 hw2
  have HO : Hid (HObj w2 q slots S g) := by rw [hw2]; exact HO0.out.below (Below.refl _ _).drew
  have HM : Hid (Mod (fun _ => False) w w2) := by rw [hw2]; exact (Mod.refl _ _).drew
  have d1 : w2.cell? ⟨b1, 0, none⟩ = some (.pointer (some ⟨s, 0, none⟩)) := by rw [hw2]; exact c1
  have d2 : w2.cell? ⟨b2, 0, none⟩ = some (.int .i64 slot) := by rw [hw2]; exact c2
  have d4 : w2.cell? ⟨s, 1, none⟩ = some (.pointer (some ⟨q, 0, none⟩)) := by rw [hw2]; exact c4
  clear hw2 c1 c2 c4
  simp only [List.take_succ_cons, List.take_zero, List.drop_succ_cons, List.drop_zero]
  repeat still_step
  refine wpStill_nil ?_
  clear d1 d2 d4
  go_wp2_with fail
  with_reducible refine (remove_some w2 q slots S g (HO.out) slot hs k HK.out).mono ?_
  rintro e w3 ⟨rfl, g3, ho3, hm3, hf3⟩
  have hsz := HM.out.size
  have FIN : Hid (HDone (.int .i64 0) w q slots (del (slot : Int) S) g (.returned (.int .i64 0)) w3) :=
    ⟨rfl, g3, ho3, (HM.out.mono (fun _ _ h => h.elim)).trans hm3 (fun _ _ h => h), fun k hk => (hf3 k hk).imp id (fun h => by omega)⟩
  clear ho3 hm3 hf3
  go_wp2_with fail
  go_ret
  exact FIN.out

def box2i (w : World) (s : Nat) (slot : Int) : World :=
  (w.alloc (.cells #[.pointer (some ⟨s, 0, none⟩)] 34)).alloc (.cells #[.int .i64 slot] 3)

theorem box2i_below (w : World) (s : Nat) (slot : Int) : Below w.heap.size w (box2i w s slot) :=
  ((Below.refl _ _).alloc (Nat.le_refl _) _).alloc (by simp) _

theorem box2i_cells (w : World) (s : Nat) (slot : Int) :
    (box2i w s slot).cell? ⟨w.heap.size, 0, none⟩ = some (.pointer (some ⟨s, 0, none⟩)) ∧ (box2i w s slot).cell? ⟨w.heap.size + 1, 0, none⟩ = some (.int .i64 slot) :=
  ⟨((Blk.new w 34 [_]).alloc _).cell (i := 0) rfl, (Blk.new' (w.alloc _) 3 [_] (by simp)).cell (i := 0) rfl⟩

set_option maxHeartbeats 1000000 in
set_option maxRecDepth 100000 in
theorem edrop_some (w : World) (s slots : Nat) (S : List Ent) (q : Nat) (g : HG) (h : EObj w s slots S q g) (slot : Nat) (hs : slot < slots) (k : Int) (hk : ((slot : Int), k) ∈ S) :
    Calls Try.prog 35 #[.pointer (some ⟨s, 0, none⟩), .int .i64 slot] w (EDone (.int .i64 0) w s slots (del (slot : Int) S) q g) := by
  have hb := box2i_below w s slot
  obtain ⟨c1, c2⟩ := box2i_cells w s slot
  have h1 := h.below hb
  have HW : Hid (Calls Try.prog 60 #[.pointer (some ⟨s, 0, none⟩), .int .i64 slot, .func (.func 68) #[] #[.pointer (some ⟨w.heap.size, 0, none⟩), .pointer (some ⟨w.heap.size + 1, 0, none⟩)]] (box2i w s slot)
      (Gives (fun k w' => k = 0 ∧ ∃ g', EObj w' s slots (del (slot : Int) S) q g' ∧ Mod g.foot (box2i w s slot) w' ∧ ∀ x, g'.foot x → g.foot x ∨ (box2i w s slot).heap.size ≤ x))) := by
    refine with_drop _ _ s slots S q g h1 slot k (by omega) (by omega) true _ _ (key_some _ q slots S g h1.obj slot hs k hk) ?_
    refine (drop1_some _ s slots S q g h1 _ _ slot hs c1 c2 k hk).mono ?_
    rintro e w' ⟨rfl, g', a, b, c⟩
    exact ⟨0, rfl, rfl, g', h1.step a b c, b, c⟩
  have HB := Lib.hid hb
  clear h h1 hb c1 c2 hk
  unfold box2i at HW HB
  go_enter Try.func35, Try.ntmps35
  go_wp2_with fail
  generalize hW : World.alloc (World.alloc w _) _ = W at HW HB ⊢
  clear hW
  with_reducible refine (HW.out).mono ?_
  rintro e w1 ⟨k, rfl, rfl, g1, ho1, hm1, hf1⟩
  have hsz := HB.out.size
  have FIN : Hid (EDone (.int .i64 0) w s slots (del (slot : Int) S) q g (.returned (.int .i64 0)) w1) :=
    ⟨rfl, g1, ho1, (Mod.of_below HB.out).trans hm1 (fun _ _ h => h), fun k hk => (hf1 k hk).imp id (fun h => by omega)⟩
  clear ho1 hm1 hf1
  go_wp2_with fail
  go_ret
  exact FIN.out

set_option maxHeartbeats 1000000 in
set_option maxRecDepth 100000 in
theorem edrop_none (w : World) (s slots : Nat) (S : List Ent) (q : Nat) (g : HG) (h : EObj w s slots S q g) (slot : Nat) (hs : slot < slots) (hn : ∀ e ∈ S, e.1 ≠ (slot : Int)) :
    Calls Try.prog 35 #[.pointer (some ⟨s, 0, none⟩), .int .i64 slot] w (RetB (.int .i64 5) w) := by
  have hb := box2i_below w s slot
  have h1 := h.below hb
  have HW : Hid (Calls Try.prog 60 #[.pointer (some ⟨s, 0, none⟩), .int .i64 slot, .func (.func 68) #[] #[.pointer (some ⟨w.heap.size, 0, none⟩), .pointer (some ⟨w.heap.size + 1, 0, none⟩)]] (box2i w s slot)
      (Gives (fun k w' => k = 5 ∧ w' = box2i w s slot))) := by
    refine with_drop _ _ s slots S q g h1 slot 0 (by omega) (by omega) false _ _ (key_none _ q slots S g h1.obj slot hs hn) ?_
    refine (drop1_none _ _ _).mono ?_
    rintro e w' ⟨rfl, rfl⟩
    exact ⟨5, rfl, rfl, rfl⟩
  have HB := Lib.hid hb
  clear h h1 hb hn
  unfold box2i at HW HB
  go_enter Try.func35, Try.ntmps35
  go_wp2_with fail
  generalize hW : World.alloc (World.alloc w _) _ = W at HW HB ⊢
  clear hW
  with_reducible refine (HW.out).mono ?_
  rintro e w1 ⟨k, rfl, rfl, rfl⟩
  go_wp2_with fail
  go_ret
  exact ⟨rfl, HB.out⟩

set_option maxHeartbeats 1000000 in
set_option maxRecDepth 100000 in
theorem edrop_range (w : World) (s slots : Nat) (S : List Ent) (q : Nat) (g : HG) (h : EObj w s slots S q g) (slot : Int) (hs : ¬ (0 ≤ slot ∧ slot < slots)) :
    Calls Try.prog 35 #[.pointer (some ⟨s, 0, none⟩), .int .i64 slot] w (RetB (.int .i64 3) w) := by
  have hb := box2i_below w s slot
  have HW := Lib.hid (with_range_drop _ s slots S q g (h.below hb) slot hs (.pointer (some ⟨w.heap.size, 0, none⟩)) (.pointer (some ⟨w.heap.size + 1, 0, none⟩)))
  have HB := Lib.hid hb
  clear h hb hs
  unfold box2i at HW HB
  go_enter Try.func35, Try.ntmps35
  go_wp2_with fail
  generalize hW : World.alloc (World.alloc w _) _ = W at HW HB ⊢
  clear hW
  with_reducible refine (HW.out).mono ?_
  rintro e w1 ⟨rfl, rfl⟩
  go_wp2_with fail
  go_ret
  exact ⟨rfl, HB.out⟩

set_option maxHeartbeats 1000000 in
theorem left1_none (w : World) (p1 p2 p3 p4 : Value) : Calls Try.prog 61 #[.bool false, p1, p2, p3, p4] w (Ret (.int .i64 5) w) := by
  go_enter Try.func61, Try.ntmps61
  go_wp2_with fail
  go_ret
  exact ⟨rfl, rfl⟩

set_option maxHeartbeats 1000000 in
set_option maxRecDepth 100000 in
theorem left1_some (w : World) (s slots : Nat) (S : List Ent) (q : Nat) (g : HG) (h : EObj w s slots S q g) (b1 b2 b3 b4 slot : Nat) (now : Int) (hs : slot < slots)
    (c1 : w.cell? ⟨b1, 0, none⟩ = some (.pointer (some ⟨s, 0, none⟩))) (c2 : w.cell? ⟨b2, 0, none⟩ = some (.int .i64 slot)) (c3 : w.cell? ⟨b3, 0, none⟩ = some (.int .i64 now))
    (B4 : Blk w b4 2 [.int .i64 0]) (k : Int) (hk : ((slot : Int), k) ∈ S)
    (d e0 : Int) (hsub : ∀ W, Calls Try.prog 62 #[.int .i64 k, .int .i64 now] W (Ret (.tuple #[.int .i64 d, .int .i64 e0]) W)) :
    Calls Try.prog 61 #[.bool true, .pointer (some ⟨b1, 0, none⟩), .pointer (some ⟨b2, 0, none⟩), .pointer (some ⟨b3, 0, none⟩), .pointer (some ⟨b4, 0, none⟩)] w
      (Gives (fun r w' => r = e0 ∧ Mod (fun x => x = b4) w w' ∧ Blk w' b4 2 [.int .i64 d])) := by
  have c4 := h.blk.cell (i := 1) rfl
  have HO0 := Lib.hid h.obj
  have HK := Lib.hid hk
  have HS := Lib.hid hsub
  have HB4 := Lib.hid B4
  clear h hk hsub B4
  go_enter Try.func61, Try.ntmps61
  go_wp2_with fail
  go_quiet ((go_at_call 50; exact Calls.quiet_of_same (Ret.still (key_some _ q slots S g (HO0.out.below (bel_drewN (Below.refl _ _) _)) slot hs k HK.out))))
  obtain ⟨w2, hw2⟩ : ∃ w2, w2 = w.drewN nq := ⟨_, rfl⟩
  rw [← hw2]
  have HM : Hid (Mod (fun x => x = b4) w w2) := by rw [hw2]; exact (Mod.refl _ _).drewN _
  have d3 : w2.cell? ⟨b3, 0, none⟩ = some (.int .i64 now) := by rw [hw2]; exact c3
  have B2 : Blk w2 b4 2 [.int .i64 0] := by rw [hw2]; exact HB4.out
  clear hw2 c1 c2 c3 c4
  have q0 := B2.cell (i := 0) rfl
  have q1 := B2.free 0
  have HB2 := Lib.hid B2
  clear B2
  go_wp2_with (go_at_call 62; refine (HS.out _).mono ?_; rintro e w' ⟨rfl, rfl⟩)
  go_ret
  exact ⟨_, rfl, rfl, HM.out.setCell _ (fun _ => rfl) _, HB2.out.set 0 _⟩

def box4i (w : World) (s : Nat) (slot now : Int) : World := (box3i w s slot now).alloc (.cells #[.int .i64 0] 2)

theorem box4i_below (w : World) (s : Nat) (slot now : Int) : Below w.heap.size w (box4i w s slot now) :=
  (box3i_below w s slot now).alloc (box3i_below w s slot now).size _

theorem box4i_cells (w : World) (s : Nat) (slot now : Int) :
    (box4i w s slot now).cell? ⟨w.heap.size, 0, none⟩ = some (.pointer (some ⟨s, 0, none⟩)) ∧ (box4i w s slot now).cell? ⟨w.heap.size + 1, 0, none⟩ = some (.int .i64 slot) ∧ (box4i w s slot now).cell? ⟨w.heap.size + 1 + 1, 0, none⟩ = some (.int .i64 now) ∧
      Blk (box4i w s slot now) (w.heap.size + 1 + 1 + 1) 2 [.int .i64 0] :=
  ⟨((((Blk.new w 34 [_]).alloc _).alloc _).alloc _).cell (i := 0) rfl, (((Blk.new' (w.alloc _) 3 [_] (by simp)).alloc _).alloc _).cell (i := 0) rfl, ((Blk.new' ((w.alloc _).alloc _) 2 [_] (by simp)).alloc _).cell (i := 0) rfl,
    Blk.new' (box3i w s slot now) 2 [_] (by simp [box3i])⟩

set_option maxHeartbeats 1000000 in
set_option maxRecDepth 100000 in
theorem eleft_some (w : World) (s slots : Nat) (S : List Ent) (q : Nat) (g : HG) (h : EObj w s slots S q g) (slot : Nat) (now : Int) (hs : slot < slots) (k : Int) (hk : ((slot : Int), k) ∈ S)
    (d e0 : Int) (hsub : ∀ W, Calls Try.prog 62 #[.int .i64 k, .int .i64 now] W (Ret (.tuple #[.int .i64 d, .int .i64 e0]) W)) (h0 : e0 ≠ 0 → d = 0) :
    Calls Try.prog 27 #[.pointer (some ⟨s, 0, none⟩), .int .i64 slot, .int .i64 now] w (RetB (.tuple #[.int .i64 d, .int .i64 e0]) w) := by
  have hb := box4i_below w s slot now
  obtain ⟨c1, c2, c3, c4⟩ := box4i_cells w s slot now
  have h1 := h.below hb
  have HW : Hid (Calls Try.prog 60 #[.pointer (some ⟨s, 0, none⟩), .int .i64 slot, .func (.func 61) #[] #[.pointer (some ⟨w.heap.size, 0, none⟩), .pointer (some ⟨w.heap.size + 1, 0, none⟩), .pointer (some ⟨w.heap.size + 1 + 1, 0, none⟩), .pointer (some ⟨w.heap.size + 1 + 1 + 1, 0, none⟩)]] (box4i w s slot now)
      (Gives (fun r w' => r = e0 ∧ Mod (fun x => x = w.heap.size + 1 + 1 + 1) (box4i w s slot now) w' ∧ Blk w' (w.heap.size + 1 + 1 + 1) 2 [.int .i64 d]))) :=
    with_left _ _ s slots S q g h1 slot k (by omega) (by omega) true _ _ _ _ (key_some _ q slots S g h1.obj slot hs k hk) (left1_some _ s slots S q g h1 _ _ _ _ slot now hs c1 c2 c3 c4 k hk d e0 hsub)
  have HB := Lib.hid hb
  have H0 := Lib.hid h0
  clear h h1 hb c1 c2 c3 c4 hk hsub h0
  unfold box4i box3i at HW HB
  go_enter Try.func27, Try.ntmps27
  go_wp2_with fail
  generalize hW : World.alloc (World.alloc (World.alloc (World.alloc w _) _) _) _ = W at HW HB ⊢
  clear hW
  with_reducible refine (HW.out).mono ?_
  rintro e w1 ⟨k, rfl, rfl, hm1, B1⟩
  have HM1 : Hid (Below w.heap.size w w1) := HB.out.trans (hm1.below HB.out.size (fun x hx => by omega))
  have c4 := B1.cell (i := 0) rfl
  clear hm1 B1
  by_cases he : k = 0
  · subst he
    go_wp2_with fail
    go_ret2
    exact ⟨rfl, HM1.out⟩
  · have t : (k != 0) = true := by simp [he]
    have hd0 := H0.out he
    subst hd0
    have HE := Lib.hid he
    clear he
    go_wp2_with fail
    go_ret2
    exact ⟨rfl, HM1.out⟩

set_option maxHeartbeats 1000000 in
set_option maxRecDepth 100000 in
theorem eleft_none (w : World) (s slots : Nat) (S : List Ent) (q : Nat) (g : HG) (h : EObj w s slots S q g) (slot : Nat) (now : Int) (hs : slot < slots) (hn : ∀ e ∈ S, e.1 ≠ (slot : Int)) :
    Calls Try.prog 27 #[.pointer (some ⟨s, 0, none⟩), .int .i64 slot, .int .i64 now] w (RetB (.tuple #[.int .i64 0, .int .i64 5]) w) := by
  have hb := box4i_below w s slot now
  have h1 := h.below hb
  have HW : Hid (Calls Try.prog 60 #[.pointer (some ⟨s, 0, none⟩), .int .i64 slot, .func (.func 61) #[] #[.pointer (some ⟨w.heap.size, 0, none⟩), .pointer (some ⟨w.heap.size + 1, 0, none⟩), .pointer (some ⟨w.heap.size + 1 + 1, 0, none⟩), .pointer (some ⟨w.heap.size + 1 + 1 + 1, 0, none⟩)]] (box4i w s slot now)
      (Gives (fun r w' => r = 5 ∧ w' = box4i w s slot now))) := by
    refine with_left _ _ s slots S q g h1 slot 0 (by omega) (by omega) false _ _ _ _ (key_none _ q slots S g h1.obj slot hs hn) ?_
    refine (left1_none _ _ _ _ _).mono ?_
    rintro e w' ⟨rfl, rfl⟩
    exact ⟨5, rfl, rfl, rfl⟩
  have HB := Lib.hid hb
  clear h h1 hb hn
  unfold box4i box3i at HW HB
  go_enter Try.func27, Try.ntmps27
  go_wp2_with fail
  generalize hW : World.alloc (World.alloc (World.alloc (World.alloc w _) _) _) _ = W at HW HB ⊢
  clear hW
  with_reducible refine (HW.out).mono ?_
  rintro e w1 ⟨k, rfl, rfl, rfl⟩
  go_wp2_with fail
  go_ret2
  exact ⟨rfl, HB.out⟩

set_option maxHeartbeats 1000000 in
set_option maxRecDepth 100000 in
theorem eleft_range (w : World) (s slots : Nat) (S : List Ent) (q : Nat) (g : HG) (h : EObj w s slots S q g) (slot now : Int) (hs : ¬ (0 ≤ slot ∧ slot < slots)) :
    Calls Try.prog 27 #[.pointer (some ⟨s, 0, none⟩), .int .i64 slot, .int .i64 now] w (RetB (.tuple #[.int .i64 0, .int .i64 3]) w) := by
  have hb := box4i_below w s slot now
  have HW := Lib.hid (with_range_left _ s slots S q g (h.below hb) slot hs (.pointer (some ⟨w.heap.size, 0, none⟩)) (.pointer (some ⟨w.heap.size + 1, 0, none⟩)) (.pointer (some ⟨w.heap.size + 1 + 1, 0, none⟩)) (.pointer (some ⟨w.heap.size + 1 + 1 + 1, 0, none⟩)))
  have HB := Lib.hid hb
  clear h hb hs
  unfold box4i box3i at HW HB
  go_enter Try.func27, Try.ntmps27
  go_wp2_with fail
  generalize hW : World.alloc (World.alloc (World.alloc (World.alloc w _) _) _) _ = W at HW HB ⊢
  clear hW
  with_reducible refine (HW.out).mono ?_
  rintro e w1 ⟨rfl, rfl⟩
  go_wp2_with fail
  go_ret2
  exact ⟨rfl, HB.out⟩

end Go.Proofs.Ytebclbpibafkdaa
