/- The schedule's New, Len, Next, Set, Drop, Left. -/
import Derived.Test.YtebclbpibafkdaaExpA
import Derived.Test.YtebclbpibafkdaaSub
namespace Go.Proofs.Ytebclbpibafkdaa
set_option linter.unusedVariables false
set_option linter.unusedSimpArgs false
open Go.RowKit

structure ENew (n : Nat) (w : World) (e : Ending) (w' : World) : Prop where
  bel : Below w.heap.size w w'
  out : ∃ s q g, EObj w' s n [] q g ∧ (∀ k, g.foot k → w.heap.size ≤ k) ∧ w.heap.size ≤ s ∧ e = .returned (.tuple #[.pointer (some ⟨s, 0, none⟩), .int .i64 0])

set_option maxHeartbeats 1000000 in
theorem enew_low (n : Int) (w : World) (h : n < 0 ∨ 65536 < n) :
    Calls Try.prog 30 #[.int .i64 n] w (Ret (.tuple #[.pointer none, .int .i64 2]) w) := by
  have hn := Lib.hid (new_low n w h)
  clear h
  go_enter Try.func30, Try.ntmps30
  go_wp2_with (go_at_call 44; refine (hn.out).mono ?_; rintro e w' ⟨rfl, rfl⟩)
  go_ret2
  exact ⟨rfl, rfl⟩

set_option maxHeartbeats 1000000 in
theorem enew_ok (n : Nat) (w : World) (h : n ≤ 65536) :
    Calls Try.prog 30 #[.int .i64 n] w (ENew n w) := by
  go_enter Try.func30, Try.ntmps30
  go_wp2_with fail
  with_reducible refine (new_obj n w h).mono ?_
  rintro e w1 ⟨hb1, q, g, ho, hf, rfl⟩
  have HO := Lib.hid ho
  have HB := Lib.hid hb1
  have HF := Lib.hid hf
  clear ho hb1 hf
  go_wp2_with fail
  go_ret2
  have hb2 : Below w1.heap.size w1 (w1.alloc (.cells #[.int .i64 (n : Nat), .pointer (some ⟨q, 0, none⟩)] 65)) := (Below.refl _ _).alloc (Nat.le_refl _) _
  refine ⟨HB.out.alloc HB.out.size _, w1.heap.size, q, g, ⟨Blk.new _ _ [_, _], HO.out.below hb2, fun hh => ?_⟩, HF.out, HB.out.size, rfl⟩
  have := HO.out.rep.foot_lt _ hh
  omega

set_option maxHeartbeats 1000000 in
theorem elen_ok (w : World) (s slots : Nat) (S : List Ent) (q : Nat) (g : HG) (h : EObj w s slots S q g) :
    Calls Try.prog 33 #[.pointer (some ⟨s, 0, none⟩)] w (Ret (.int .i64 (S.length : Nat)) w) := by
  have c1 := h.blk.cell (i := 1) rfl
  have HO := Lib.hid h.obj
  clear h
  go_enter Try.func33, Try.ntmps33
  go_wp2_with (first
    | (go_at_call 63; refine (evalid_ok s q w c1).mono ?_; rintro e w' ⟨rfl, rfl⟩)
    | (go_at_call 24; refine (len_ok w q slots S g HO.out).mono ?_; rintro e w' ⟨rfl, rfl⟩))
  go_ret
  exact ⟨rfl, rfl⟩

/-- What Next and Min return. -/
def headV : List Ent → Value
  | [] => .tuple #[.agg #[.int .i64 0, .int .i64 0], .bool false]
  | x :: _ => .tuple #[.agg #[.int .i64 x.1, .int .i64 x.2], .bool true]

theorem min_any (w : World) (b slots : Nat) (S : List Ent) (g : HG) (h : HObj w b slots S g) :
    Calls Try.prog 57 #[.pointer (some ⟨b, 0, none⟩)] w (RetB (headV S) w) := by
  cases S with
  | nil => exact min_empty w b slots g h
  | cons x S => exact min_some w b slots x S g h

set_option maxHeartbeats 1000000 in
set_option maxRecDepth 100000 in
theorem enext_gen (w : World) (s slots : Nat) (S : List Ent) (q : Nat) (g : HG) (h : EObj w s slots S q g) (a b : Int) (t : Bool) (hv : headV S = .tuple #[.agg #[.int .i64 a, .int .i64 b], .bool t]) :
    Calls Try.prog 34 #[.pointer (some ⟨s, 0, none⟩)] w (RetB (.tuple #[.agg #[.int .i64 a, .int .i64 b], .bool t]) w) := by
  have hb1 : Below w.heap.size w (w.alloc (.cells #[.int .i64 0, .int .i64 0] 28)) := (Below.refl _ _).alloc (Nat.le_refl _) _
  have h1 := h.below hb1
  have c1 := h1.blk.cell (i := 1) rfl
  have hm := min_any _ q slots S g h1.obj
  rw [hv] at hm
  have HM := Lib.hid hm
  have HB1 := Lib.hid hb1
  clear h h1 hm hb1 hv
  go_enter Try.func34, Try.ntmps34
  go_wp2_with (go_at_call 63; refine (evalid_ok s q _ c1).mono ?_; rintro e w' ⟨rfl, rfl⟩)
  with_reducible refine (HM.out).mono ?_
  rintro e w1 ⟨rfl, hb2⟩
  have B1 := (Blk.new w 28 [.int .i64 0, .int .i64 0]).below hb2 (by simp)
  have a0 := B1.cell (i := 0) rfl
  have a1 := B1.cell (i := 1) rfl
  have f0 := B1.free 0
  have f1 := B1.free 1
  have HB2 := Lib.hid (HB1.out.trans (hb2.mono (by simp)))
  have BB := Lib.hid B1
  clear hb2 B1 HB1 c1
  go_wp2_with fail
  have BW := ((BB.out.set 0 (.int .i64 a)).set 1 (.int .i64 b))
  have d0 := BW.cell (i := 0) rfl
  have d1 := BW.cell (i := 1) rfl
  refine bodyPost_ret (v := .tuple #[.agg #[.int .i64 a, .int .i64 b], .bool t]) ?_ rfl ⟨rfl, ?_⟩
  · simp [results, Try.results34, go_sem, d0, d1]
  · exact (HB2.out.setCell (Nat.le_refl _) _).setCell (Nat.le_refl _) _

theorem enext_any (w : World) (s slots : Nat) (S : List Ent) (q : Nat) (g : HG) (h : EObj w s slots S q g) :
    Calls Try.prog 34 #[.pointer (some ⟨s, 0, none⟩)] w (RetB (headV S) w) := by
  cases S with
  | nil => exact enext_gen w s slots [] q g h 0 0 false rfl
  | cons x S => exact enext_gen w s slots (x :: S) q g h x.1 x.2 true rfl

theorem del_self {S : List Ent} {i : Int} (h : ∀ e ∈ S, e.1 ≠ i) : del i S = S := by
  unfold del
  rw [List.filter_eq_self]
  intro e he
  simpa using h e he

set_option maxHeartbeats 1000000 in
set_option maxRecDepth 100000 in
theorem set1_change (w : World) (s slots : Nat) (S : List Ent) (q : Nat) (g : HG) (h : EObj w s slots S q g) (b1 b2 b3 slot : Nat) (at' : Int) (hs : slot < slots)
    (c1 : w.cell? ⟨b1, 0, none⟩ = some (.pointer (some ⟨s, 0, none⟩))) (c2 : w.cell? ⟨b2, 0, none⟩ = some (.int .i64 slot)) (c3 : w.cell? ⟨b3, 0, none⟩ = some (.int .i64 at')) (k : Int) (hk : ((slot : Int), k) ∈ S) :
    Calls Try.prog 69 #[.bool true, .pointer (some ⟨b1, 0, none⟩), .pointer (some ⟨b2, 0, none⟩), .pointer (some ⟨b3, 0, none⟩)] w
      (HDone (.int .i64 0) w q slots (ins ((slot : Int), at') (del (slot : Int) S)) g) := by
  have c4 := h.blk.cell (i := 1) rfl
  have HO0 := Lib.hid h.obj
  have HK := Lib.hid hk
  clear hk
  clear h
  go_enter Try.func69, Try.ntmps69
  go_wp2_with fail
  refine region_tail 6 (by kernel_rfl) (by kernel_rfl) ?_
  intro w2 hw2
  have HO : Hid (HObj w2 q slots S g) := by rw [hw2]; exact HO0.out.below (Below.refl _ _).drew
  have HM : Hid (Mod (fun _ => False) w w2) := by rw [hw2]; exact (Mod.refl _ _).drew
  have d1 : w2.cell? ⟨b1, 0, none⟩ = some (.pointer (some ⟨s, 0, none⟩)) := by rw [hw2]; exact c1
  have d2 : w2.cell? ⟨b2, 0, none⟩ = some (.int .i64 slot) := by rw [hw2]; exact c2
  have d3 : w2.cell? ⟨b3, 0, none⟩ = some (.int .i64 at') := by rw [hw2]; exact c3
  have d4 : w2.cell? ⟨s, 1, none⟩ = some (.pointer (some ⟨q, 0, none⟩)) := by rw [hw2]; exact c4
  clear hw2 c1 c2 c3 c4
  simp only [List.take_succ_cons, List.take_zero, List.drop_succ_cons, List.drop_zero]
  repeat still_step
  refine wpStill_nil ?_
  clear d1 d2 d3 d4
  go_wp2_with fail
  with_reducible refine (change_some w2 q slots S g (HO.out) slot hs k at' HK.out).mono ?_
  rintro e w3 ⟨rfl, g3, ho3, hm3, hf3⟩
  have hsz := HM.out.size
  have FIN : Hid (HDone (.int .i64 0) w q slots (ins ((slot : Int), at') (del (slot : Int) S)) g (.returned (.int .i64 0)) w3) :=
    ⟨rfl, g3, ho3, (HM.out.mono (fun _ _ h => h.elim)).trans hm3 (fun _ _ h => h), fun k hk => (hf3 k hk).imp id (fun h => by omega)⟩
  clear ho3 hm3 hf3
  go_wp2_with fail
  go_ret
  exact FIN.out

set_option maxHeartbeats 1000000 in
set_option maxRecDepth 100000 in
theorem set1_push (w : World) (s slots : Nat) (S : List Ent) (q : Nat) (g : HG) (h : EObj w s slots S q g) (b1 b2 b3 slot : Nat) (at' : Int) (hs : slot < slots)
    (c1 : w.cell? ⟨b1, 0, none⟩ = some (.pointer (some ⟨s, 0, none⟩))) (c2 : w.cell? ⟨b2, 0, none⟩ = some (.int .i64 slot)) (c3 : w.cell? ⟨b3, 0, none⟩ = some (.int .i64 at')) (hn : ∀ e ∈ S, e.1 ≠ (slot : Int)) :
    Calls Try.prog 69 #[.bool false, .pointer (some ⟨b1, 0, none⟩), .pointer (some ⟨b2, 0, none⟩), .pointer (some ⟨b3, 0, none⟩)] w
      (HDone (.int .i64 0) w q slots (ins ((slot : Int), at') S) g) := by
  have c4 := h.blk.cell (i := 1) rfl
  have HO0 := Lib.hid h.obj
  have HN := Lib.hid hn
  clear hn
  clear h
  go_enter Try.func69, Try.ntmps69
  go_wp2_with fail
  refine region_tail 6 (by kernel_rfl) (by kernel_rfl) ?_
  intro w2 hw2
  have HO : Hid (HObj w2 q slots S g) := by rw [hw2]; exact HO0.out.below (Below.refl _ _).drew
  have HM : Hid (Mod (fun _ => False) w w2) := by rw [hw2]; exact (Mod.refl _ _).drew
  have d1 : w2.cell? ⟨b1, 0, none⟩ = some (.pointer (some ⟨s, 0, none⟩)) := by rw [hw2]; exact c1
  have d2 : w2.cell? ⟨b2, 0, none⟩ = some (.int .i64 slot) := by rw [hw2]; exact c2
  have d3 : w2.cell? ⟨b3, 0, none⟩ = some (.int .i64 at') := by rw [hw2]; exact c3
  have d4 : w2.cell? ⟨s, 1, none⟩ = some (.pointer (some ⟨q, 0, none⟩)) := by rw [hw2]; exact c4
  clear hw2 c1 c2 c3 c4
  simp only [List.take_succ_cons, List.take_zero, List.drop_succ_cons, List.drop_zero]
  repeat still_step
  refine wpStill_nil ?_
  clear d1 d2 d3 d4
  go_wp2_with fail
  with_reducible refine (push_ok w2 q slots S g (HO.out) slot at' hs HN.out).mono ?_
  rintro e w3 ⟨rfl, g3, ho3, hm3, hf3⟩
  have hsz := HM.out.size
  have FIN : Hid (HDone (.int .i64 0) w q slots (ins ((slot : Int), at') S) g (.returned (.int .i64 0)) w3) :=
    ⟨rfl, g3, ho3, (HM.out.mono (fun _ _ h => h.elim)).trans hm3 (fun _ _ h => h), fun k hk => (hf3 k hk).imp id (fun h => by omega)⟩
  clear ho3 hm3 hf3
  go_wp2_with fail
  go_ret
  exact FIN.out

def box3 (w : World) (s slot : Nat) (at' : Int) : World :=
  ((w.alloc (.cells #[.pointer (some ⟨s, 0, none⟩)] 34)).alloc (.cells #[.int .i64 (slot : Nat)] 3)).alloc (.cells #[.int .i64 at'] 2)

theorem box3_below (w : World) (s slot : Nat) (at' : Int) : Below w.heap.size w (box3 w s slot at') :=
  (((Below.refl _ _).alloc (Nat.le_refl _) _).alloc (by simp) _).alloc (by simp; omega) _

theorem box3_cells (w : World) (s slot : Nat) (at' : Int) :
    (box3 w s slot at').cell? ⟨w.heap.size, 0, none⟩ = some (.pointer (some ⟨s, 0, none⟩)) ∧ (box3 w s slot at').cell? ⟨w.heap.size + 1, 0, none⟩ = some (.int .i64 (slot : Nat)) ∧ (box3 w s slot at').cell? ⟨w.heap.size + 1 + 1, 0, none⟩ = some (.int .i64 at') :=
  ⟨(((Blk.new w 34 [_]).alloc _).alloc _).cell (i := 0) rfl, ((Blk.new' (w.alloc _) 3 [_] (by simp)).alloc _).cell (i := 0) rfl, (Blk.new' ((w.alloc _).alloc _) 2 [_] (by simp)).cell (i := 0) rfl⟩

theorem EObj.find {w : World} {s slots q : Nat} {S : List Ent} {g : HG} (h : EObj w s slots S q g) (slot : Nat) : (∃ k, ((slot : Int), k) ∈ S) ∨ ∀ e ∈ S, e.1 ≠ (slot : Int) := by
  by_cases hh : ∃ k, ((slot : Int), k) ∈ S
  · exact .inl hh
  · refine .inr fun e he ee => hh ⟨e.2, ?_⟩
    rw [← ee]; exact he

set_option maxHeartbeats 1000000 in
set_option maxRecDepth 100000 in
theorem eset_ok (w : World) (s slots : Nat) (S : List Ent) (q : Nat) (g : HG) (h : EObj w s slots S q g) (slot : Nat) (at' : Int) (hs : slot < slots) :
    Calls Try.prog 37 #[.pointer (some ⟨s, 0, none⟩), .int .i64 slot, .int .i64 at'] w (EDone (.int .i64 0) w s slots (ins ((slot : Int), at') (del (slot : Int) S)) q g) := by
  have hb := box3_below w s slot at'
  obtain ⟨c1, c2, c3⟩ := box3_cells w s slot at'
  have h1 := h.below hb
  have HW : Hid (Calls Try.prog 60 #[.pointer (some ⟨s, 0, none⟩), .int .i64 slot, .func (.func 69) #[] #[.pointer (some ⟨w.heap.size, 0, none⟩), .pointer (some ⟨w.heap.size + 1, 0, none⟩), .pointer (some ⟨w.heap.size + 1 + 1, 0, none⟩)]] (box3 w s slot at')
      (Gives (fun k w' => k = 0 ∧ ∃ g', EObj w' s slots (ins ((slot : Int), at') (del (slot : Int) S)) q g' ∧ Mod g.foot (box3 w s slot at') w' ∧ ∀ x, g'.foot x → g.foot x ∨ (box3 w s slot at').heap.size ≤ x))) := by
    rcases h.find slot with ⟨k, hk⟩ | hn
    · refine with_set _ _ s slots S q g h1 slot k (by omega) (by omega) true _ _ _ (key_some _ q slots S g h1.obj slot hs k hk) ?_
      refine (set1_change _ s slots S q g h1 _ _ _ slot at' hs c1 c2 c3 k hk).mono ?_
      rintro e w' ⟨rfl, g', a, b, c⟩
      exact ⟨0, rfl, rfl, g', h1.step a b c, b, c⟩
    · refine with_set _ _ s slots S q g h1 slot 0 (by omega) (by omega) false _ _ _ (key_none _ q slots S g h1.obj slot hs hn) ?_
      refine (set1_push _ s slots S q g h1 _ _ _ slot at' hs c1 c2 c3 hn).mono ?_
      rintro e w' ⟨rfl, g', a, b, c⟩
      rw [del_self hn]
      exact ⟨0, rfl, rfl, g', h1.step a b c, b, c⟩
  have HB := Lib.hid hb
  clear h h1 hb c1 c2 c3
  unfold box3 at HW HB
  go_enter Try.func37, Try.ntmps37
  go_wp2_with fail
  generalize hW : World.alloc (World.alloc (World.alloc w _) _) _ = W at HW HB ⊢
  clear hW
  with_reducible refine (HW.out).mono ?_
  rintro e w1 ⟨k, rfl, rfl, g1, ho1, hm1, hf1⟩
  have hsz := HB.out.size
  have FIN : Hid (EDone (.int .i64 0) w s slots (ins ((slot : Int), at') (del (slot : Int) S)) q g (.returned (.int .i64 0)) w1) :=
    ⟨rfl, g1, ho1, (Mod.of_below HB.out).trans hm1 (fun _ _ h => h), fun k hk => (hf1 k hk).imp id (fun h => by omega)⟩
  clear ho1 hm1 hf1
  go_wp2_with fail
  go_ret
  exact FIN.out

end Go.Proofs.Ytebclbpibafkdaa
