/- The reference of layer 4: Change, Pop, Copy. -/
import Derived.Test.YtebclbpibafkdaaR4C
import Derived.Deep.RegionHeld3
namespace Go.Proofs.Ytebclbpibafkdaa
set_option linter.unusedVariables false
set_option linter.unusedSimpArgs false
open Go.RowKit

theorem R4Done.trans {x y : Value} {w w1 w2 : World} {r slots : Nat} {L1 L2 : List Ent} {v u : Value} (hl : R4Obj w1 r slots L1 u) (hm : Mod (fun k => k = r ∨ v.ownBlock = some k) w w1) (hn : ∀ k, u.ownBlock = some k → v.ownBlock = some k ∨ w.heap.size ≤ k)
    (h : R4Done y w1 r slots L2 u (.returned y) w2) : R4Done y w r slots L2 v (.returned y) w2 := by
  obtain ⟨_, u2, h1, h2, h3⟩ := h
  have hs := hm.size
  refine ⟨rfl, u2, h1, hm.trans h2 (fun k hk e => ?_), fun k e => ?_⟩
  · rcases e with e | e
    · exact .inl e
    · rcases hn k e with e2 | e2
      · exact .inr e2
      · omega
  · rcases h3 k e with e2 | e2
    · exact hn k e2
    · exact .inr (by omega)

theorem rfind_del {i : Int} {L : List Ent} : rfind i (del i L) = -1 := by
  rcases rfind_cases i (del i L) with ⟨p, hp, _, he⟩ | ⟨h, _⟩
  · exact absurd he (not_mem_del _ (ent_mem hp))
  · exact h

set_option maxHeartbeats 1000000 in
theorem r4change_some (w : World) (r slots : Nat) (L : List Ent) (v : Value) (h : R4Obj w r slots L v) (i key : Int) (h0 : 0 ≤ i) (h1 : i < slots) (p : Nat) (hp : p < L.length) (hf : rfind i L = (p : Int)) (hd : wo (p : Int) L L.length = del i L) :
    Calls Try.prog 53 #[.pointer (some ⟨r, 0, none⟩), .int .i64 i, .int .i64 key] w (R4Done (.int .i64 0) w r slots (del i L ++ [(i, key)]) v) := by
  have hrem := r4remove_some w r slots L v h i h0 h1 p hp hf
  rw [hd] at hrem
  have HREM := Lib.hid hrem
  have HLN : Hid ((del i L).length < 65536) := by
    have h2 := (wo_perm hp).length_eq
    rw [hd] at h2
    have h3 := h.len
    simp only [List.length_cons] at h2
    exact Lib.hid (by omega)
  clear h hrem hf hd hp
  go_enter Try.func53, Try.ntmps53
  go_wp2_with fail
  with_reducible refine (HREM.out).mono ?_
  rintro e w1 ⟨rfl, u, ho, hm, hn⟩
  have HO := Lib.hid ho
  have HM := Lib.hid hm
  have HN := Lib.hid hn
  clear ho hm hn
  go_wp2_with fail
  with_reducible refine (r4push_ok w1 r slots (del i L) u HO.out i key h0 h1 rfind_del HLN.out).mono ?_
  rintro e w2 hd2
  obtain ⟨rfl, hout⟩ := hd2
  have FIN := Lib.hid (R4Done.trans (x := .int .i64 0) (y := .int .i64 0) HO.out HM.out HN.out ⟨rfl, hout⟩)
  clear hout
  go_wp2_with fail
  go_ret
  exact FIN.out

set_option maxHeartbeats 1000000 in
theorem r4change_ret (e0 : Int) (he : e0 ≠ 0) (w : World) (r : Value) (i key : Int) (h : Calls Try.prog 54 #[r, .int .i64 i] w (Ret (.int .i64 e0) w)) :
    Calls Try.prog 53 #[r, .int .i64 i, .int .i64 key] w (Ret (.int .i64 e0) w) := by
  have HREM := Lib.hid h
  have t1 : (e0 != 0) = true := by simp [he]
  clear h he
  go_enter Try.func53, Try.ntmps53
  go_wp2_with (go_at_call 54; refine (HREM.out).mono ?_; rintro e w' ⟨rfl, rfl⟩)
  go_ret
  exact ⟨rfl, rfl⟩

set_option maxHeartbeats 1000000 in
/-- Pop of nothing: what Min returns. -/
theorem r4pop_none (w : World) (rv : Value) (h : ∀ W, Below w.heap.size w W → Calls Try.prog 77 #[rv] W (RetB (.tuple #[.agg #[.int .i64 0, .int .i64 0], .bool false]) W)) :
    Calls Try.prog 55 #[rv] w (RetB (.tuple #[.agg #[.int .i64 0, .int .i64 0], .bool false]) w) := by
  have hb1 : Below w.heap.size w (w.alloc (.cells #[.int .i64 0, .int .i64 0] 28)) := (Below.refl _ _).alloc (Nat.le_refl _) _
  have HM := Lib.hid (h _ hb1)
  have HB1 := Lib.hid hb1
  clear h hb1
  go_enter Try.func55, Try.ntmps55
  go_wp2_with fail
  refine (HM.out).mono ?_
  rintro e w1 ⟨rfl, hb2⟩
  have B1 := (Blk.new w 28 [.int .i64 0, .int .i64 0]).below hb2 (by simp)
  have hsz := hb2.size
  simp only [World.size_alloc] at hsz
  have hsz2 : w.heap.size < w1.heap.size := by omega
  have a0 := B1.cell (i := 0) rfl
  have a1 := B1.cell (i := 1) rfl
  have f0 := B1.free 0
  have f1 := B1.free 1
  have HB2 := Lib.hid (HB1.out.trans (hb2.mono (by simp)))
  have BB := Lib.hid B1
  clear hb2 B1 HM HB1
  go_wp2_with fail
  have BW := (((BB.out.set 0 (.int .i64 0)).set 1 (.int .i64 0)).alloc (.cells #[.int .i64 0, .int .i64 0] 28))
  have d0 := BW.cell (i := 0) rfl
  have d1 := BW.cell (i := 1) rfl
  refine bodyPost_ret (v := .tuple #[.agg #[.int .i64 0, .int .i64 0], .bool false]) ?_ rfl ⟨rfl, ?_⟩
  · simp [results, Try.results55, go_sem, d0, d1]
  · exact ((HB2.out.setCell (Nat.le_refl _) _).setCell (Nat.le_refl _) _).alloc (by simp [World.setCell]; omega) _

structure R4Pop (x : Ent) (w : World) (r slots : Nat) (L : List Ent) (v : Value) (e : Ending) (w' : World) : Prop where
  val : e = .returned (.tuple #[.agg #[.int .i64 x.1, .int .i64 x.2], .bool true])
  out : ∃ u, R4Obj w' r slots L u ∧ Mod (fun k => k = r ∨ v.ownBlock = some k) w w' ∧ ∀ k, u.ownBlock = some k → v.ownBlock = some k ∨ w.heap.size ≤ k

set_option maxHeartbeats 2000000 in
theorem r4pop_some (w : World) (r slots : Nat) (L : List Ent) (v : Value) (h : R4Obj w r slots L v) (x : Ent) (S : List Ent) (hs : Sorted (x :: S)) (hp : (x :: S).Perm L) (h0 : 0 ≤ x.1) (h1 : x.1 < slots) (p : Nat) (hpl : p < L.length) (hf : rfind x.1 L = (p : Int)) :
    Calls Try.prog 55 #[.pointer (some ⟨r, 0, none⟩)] w (R4Pop x w r slots (wo (p : Int) L L.length) v) := by
  have hb1 : Below w.heap.size w (w.alloc (.cells #[.int .i64 0, .int .i64 0] 28)) := (Below.refl _ _).alloc (Nat.le_refl _) _
  have HO1 := Lib.hid (h.below hb1)
  have HLT := Lib.hid h.lt
  have HM := Lib.hid (r4min_any _ r slots L v (h.below hb1) (x :: S) hs hp)
  have HB1 := Lib.hid hb1
  have HF := Lib.hid hf
  clear h hb1 hs hp hf
  go_enter Try.func55, Try.ntmps55
  go_wp2_with fail
  refine (HM.out).mono ?_
  rintro e w1 ⟨rfl, hb2⟩
  show _
  simp only [headV]
  have hb3 : Below (w.alloc (.cells #[.int .i64 0, .int .i64 0] 28)).heap.size (w.alloc (.cells #[.int .i64 0, .int .i64 0] 28)) (w1.alloc (.cells #[.int .i64 x.1, .int .i64 x.2] 28)) := hb2.alloc hb2.size _
  have B1 := (Blk.new w 28 [.int .i64 0, .int .i64 0]).below hb3 (by simp)
  have BX := Blk.new w1 28 [.int .i64 x.1, .int .i64 x.2]
  have hsz := hb2.size
  simp only [World.size_alloc] at hsz
  have x0 := BX.cell (i := 0) rfl
  have x1 := BX.cell (i := 1) rfl
  have HO3 := Lib.hid (HO1.out.below hb3)
  have HB3 := Lib.hid (HB1.out.trans (hb3.mono (by simp)))
  have BB := Lib.hid B1
  have BBX := Lib.hid BX
  clear hb2 hb3 B1 BX HM HB1 HO1
  go_wp2_with fail
  generalize hW : World.alloc w1 _ = W3 at *
  generalize w1.heap.size = X at *
  clear hW
  with_reducible refine (r4remove_some W3 r slots L v HO3.out x.1 h0 h1 p hpl HF.out).mono ?_
  rintro e w4 ⟨rfl, u, ho, hm, hn⟩
  have hXlt := BBX.out.lt
  have hwl : w.heap.size < W3.heap.size := BB.out.lt
  have nw : ¬ (w.heap.size = r ∨ v.ownBlock = some w.heap.size) := fun e => by have := HLT.out _ e; omega
  have nX : ¬ (X = r ∨ v.ownBlock = some X) := fun e => by have := HLT.out _ e; omega
  have B4 := BB.out.mod hm nw
  have X4 := BBX.out.mod hm nX
  have y0 := X4.cell (i := 0) rfl
  have y1 := X4.cell (i := 1) rfl
  have a0 := B4.cell (i := 0) rfl
  have a1 := B4.cell (i := 1) rfl
  have f0 := B4.free 0
  have f1 := B4.free 1
  have hs3 := HB3.out.size
  have FIN : Hid (R4Pop x w r slots (wo (p : Int) L L.length) v (.returned (.tuple #[.agg #[.int .i64 x.1, .int .i64 x.2], .bool true])) ((w4.setCell ⟨w.heap.size, 0, none⟩ (.int .i64 x.1)).setCell ⟨w.heap.size, 1, none⟩ (.int .i64 x.2))) := by
    have hu : ∀ k, u.ownBlock = some k → k ≠ w.heap.size := fun k e e2 => by
      rcases hn k e with e3 | e3
      · exact nw (.inr (by rw [← e2]; exact e3))
      · omega
    have hr : r ≠ w.heap.size := fun e => nw (.inl e.symm)
    have m0 : Mod (fun k => k = r ∨ v.ownBlock = some k) w w4 := (Mod.of_below HB3.out).trans hm (fun _ _ e => e)
    refine ⟨rfl, u, ?_, (m0.setCell _ (fun hh => by simp only at hh; omega) _).setCell _ (fun hh => by simp only at hh; omega) _, fun k e => ?_⟩
    · exact ho.mod (((Mod.refl (fun k => k = w.heap.size) w4).setCell _ (fun _ => rfl) _).setCell _ (fun _ => rfl) _) hr (fun k e e2 => hu k e e2)
    · rcases hn k e with e2 | e2
      · exact .inl e2
      · exact .inr (by omega)
  have BB4 := Lib.hid B4
  clear ho hm hn B4 X4 x0 x1
  go_wp2_with fail
  have BW := (BB4.out.set 0 (.int .i64 x.1)).set 1 (.int .i64 x.2)
  have d0 := BW.cell (i := 0) rfl
  have d1 := BW.cell (i := 1) rfl
  refine bodyPost_ret (v := .tuple #[.agg #[.int .i64 x.1, .int .i64 x.2], .bool true]) ?_ rfl FIN.out
  simp [results, Try.results55, go_sem, d0, d1]

structure R4Copied (w : World) (slots : Nat) (L : List Ent) (e : Ending) (w' : World) : Prop where
  bel : Below w.heap.size w w'
  out : ∃ r v, R4Obj w' r slots L v ∧ w.heap.size ≤ r ∧ (∀ k, v.ownBlock = some k → w.heap.size ≤ k) ∧ e = .returned (.pointer (some ⟨r, 0, none⟩))

theorem cs3_keep {w w' : World} {a b : Addr} {v1 v2 : Value} (h1 : Hid (w.cell? a = some v1)) (h2 : Hid (w.cell? b = some v2)) (hb : Below w.heap.size w w') :
    w'.cell? a = some v1 ∧ w'.cell? b = some v2 ∧ Below w.heap.size w w' :=
  ⟨(hb.cell (World.block_lt_of_cell? w _ h1.out)).trans h1.out, (hb.cell (World.block_lt_of_cell? w _ h2.out)).trans h2.out, hb⟩

theorem bel_trans {w W w1 : World} (h1 : Below w.heap.size w W) (h2 : Below W.heap.size W w1) : Below w.heap.size w w1 := h1.trans (h2.mono h1.size)

set_option maxHeartbeats 1000000 in
set_option maxRecDepth 100000 in
theorem r4copy_ok (w : World) (r slots : Nat) (L : List Ent) (v : Value) (h : R4Obj w r slots L v) :
    Calls Try.prog 56 #[.pointer (some ⟨r, 0, none⟩)] w (R4Copied w slots L) := by
  have c0 := h.blk.cell (i := 0) rfl
  have c1 := h.blk.cell (i := 1) rfl
  have c2 := h.blk.cell (i := 2) rfl
  obtain ⟨ao, cap, rfl⟩ := owns_slice h.own
  have HO0 := Lib.hid h
  have hlen := h.len
  have C1 := Lib.hid c1
  have C2 := Lib.hid c2
  clear h
  go_enter Try.func56, Try.ntmps56
  go_wp2_with (go_at_call 86; refine (r4valid_ok r w c0).mono ?_; rintro e w' ⟨rfl, rfl⟩)
  go_region_held3 (fun w' => w'.cell? ⟨r, 1, none⟩ = some (.int .i64 (slots : Nat)) ∧ w'.cell? ⟨r, 2, none⟩ = some (.slice ao L.length cap) ∧ Below w.heap.size w w')
    (((try go_split_ands); refine cs3_keep C1 C2 ?_; first | assumption | exact (Below.refl _ _).drew | exact (Below.drew (by assumption)) | exact (Below.alloc (by assumption) (Below.size (by assumption)) _)))
    (first | (go_at_call 88; (try go_split_ands); refine (without_ok _ L (.slice ao L.length cap) ?_ hlen (-1)).mono ?_; (exact (HO0.out.below (by assumption)).own); rintro e w3 ⟨v', rfl, hrow⟩; obtain ⟨ao3, cp3, rfl⟩ := owns_slice hrow.own; have hbx := bel_trans (by assumption) hrow.bel; have HX := Lib.hid hrow; clear hrow))
  have hrow := HX.out
  rw [wo_all (by omega)] at hrow
  have FIN : Hid (R4Copied w slots L (.returned (.pointer (some ⟨w3.heap.size, 0, none⟩))) (w3.alloc (.cells #[.bool true, .int .i64 (slots : Nat), .slice ao3 (wo (-1) L L.length).length cp3] 106))) := by
    rw [wo_all (by omega)]
    refine ⟨hbx.alloc hbx.size _, w3.heap.size, _, ⟨Blk.new w3 _ [_, _, _], hrow.own.alloc _, fun e => ?_, hlen⟩, hbx.size, fun k hk => hrow.new k hk, rfl⟩
    have := (hrow.own.lt _ e).2; omega
  clear hrow HX
  go_wp2_with fail
  go_ret
  exact FIN.out

end Go.Proofs.Ytebclbpibafkdaa
