/- Heaps that are nil, or that New did not make. -/
import Derived.Test.YtebclbpibafkdaaHeapJ
namespace Go.Proofs.Ytebclbpibafkdaa
set_option linter.unusedVariables false
set_option linter.unusedSimpArgs false
open Go.RowKit

/-- A nil heap, or one that does not know itself. -/
structure HBad (w : World) (v : Value) : Prop where
  out : v = .pointer none ∨ ∃ s, v = .pointer (some ⟨s, 0, none⟩) ∧ w.cell? ⟨s, 0, none⟩ = some (.pointer none)

theorem HBad.below {w w' : World} {v : Value} (h : HBad w v) (k : Below w.heap.size w w') : HBad w' v := by
  rcases h.out with rfl | ⟨s, rfl, hc⟩
  · exact ⟨.inl rfl⟩
  · exact ⟨.inr ⟨s, rfl, (k.cell (World.block_lt_of_cell? w _ hc)).trans hc⟩⟩

theorem run_eql_nil_ptr {P : Program} (w : World) {tp te : TypeId} (a : Addr) (hp : P.underlying tp = some (.pointer te)) :
    (binOp .eql tp (.pointer none) (.pointer (some a))).run P w = .ok (.bool false) w := by
  have h : ∀ d : Nat, (Op.equalIn (d + 1) tp (.pointer none) (.pointer (some a))).run P w = .ok false w := fun d => by
    simp [Op.equalIn, run_underlying hp]
  simp only [binOp]
  simp [Op.equal, Op.maxDepth, h 9999]

set_option maxHeartbeats 400000 in
theorem valid_bad (w : World) (v : Value) (h : HBad w v) :
    Calls Try.prog 59 #[v] w (Ret (.bool false) w) := by
  rcases h.out with rfl | ⟨s, rfl, c1⟩
  all_goals
    clear h
    have he := fun a => run_eql_nil_ptr (P := Try.prog) w a Try.underlying24
    go_enter Try.func59, Try.ntmps59
    go_wp2
    go_ret
    exact ⟨rfl, rfl⟩

set_option maxHeartbeats 400000 in
theorem push_bad (w : World) (v : Value) (h : HBad w v) (i key : Int) : Calls Try.prog 49 #[v, .int .i64 i, .int .i64 key] w (Ret (.int .i64 1) w) := by
  have HH := Lib.hid h
  clear h
  go_enter Try.func49, Try.ntmps49
  go_wp2_with (go_at_call 59; refine (valid_bad w v HH.out).mono ?_; rintro e w' ⟨rfl, rfl⟩)
  go_ret
  exact ⟨rfl, rfl⟩

set_option maxHeartbeats 400000 in
theorem find_bad (w : World) (v : Value) (h : HBad w v) (i : Int) : Calls Try.prog 81 #[v, .int .i64 i] w (Ret (.tuple #[.int .i64 0, .int .i64 1]) w) := by
  have HH := Lib.hid h
  clear h
  go_enter Try.func81, Try.ntmps81
  go_wp2_with (go_at_call 59; refine (valid_bad w v HH.out).mono ?_; rintro e w' ⟨rfl, rfl⟩)
  go_ret2
  exact ⟨rfl, rfl⟩

set_option maxHeartbeats 400000 in
theorem change_bad (w : World) (v : Value) (h : HBad w v) (i key : Int) : Calls Try.prog 48 #[v, .int .i64 i, .int .i64 key] w (Ret (.int .i64 1) w) := by
  have HH := Lib.hid h
  clear h
  go_enter Try.func48, Try.ntmps48
  go_wp2_with (go_at_call 81; refine (find_bad w v HH.out i).mono ?_; rintro e w' ⟨rfl, rfl⟩)
  go_ret
  exact ⟨rfl, rfl⟩

set_option maxHeartbeats 400000 in
theorem remove_bad (w : World) (v : Value) (h : HBad w v) (i : Int) : Calls Try.prog 47 #[v, .int .i64 i] w (Ret (.int .i64 1) w) := by
  have HH := Lib.hid h
  clear h
  go_enter Try.func47, Try.ntmps47
  go_wp2_with (go_at_call 81; refine (find_bad w v HH.out i).mono ?_; rintro e w' ⟨rfl, rfl⟩)
  go_ret
  exact ⟨rfl, rfl⟩

set_option maxHeartbeats 400000 in
theorem key_bad (w : World) (v : Value) (h : HBad w v) (i : Int) : Calls Try.prog 50 #[v, .int .i64 i] w (Ret (.tuple #[.int .i64 0, .bool false]) w) := by
  have HH := Lib.hid h
  clear h
  go_enter Try.func50, Try.ntmps50
  go_wp2_with (go_at_call 81; refine (find_bad w v HH.out i).mono ?_; rintro e w' ⟨rfl, rfl⟩)
  go_ret2
  exact ⟨rfl, rfl⟩

set_option maxHeartbeats 400000 in
theorem hlen_bad (w : World) (v : Value) (h : HBad w v) : Calls Try.prog 24 #[v] w (Ret (.int .i64 0) w) := by
  have HH := Lib.hid h
  clear h
  go_enter Try.func24, Try.ntmps24
  go_wp2_with (go_at_call 59; refine (valid_bad w v HH.out).mono ?_; rintro e w' ⟨rfl, rfl⟩)
  go_ret
  exact ⟨rfl, rfl⟩

set_option maxHeartbeats 400000 in
theorem list_bad (w : World) (v : Value) (h : HBad w v) : Calls Try.prog 42 #[v] w (Ret (.slice none 0 0) w) := by
  have HH := Lib.hid h
  clear h
  go_enter Try.func42, Try.ntmps42
  go_wp2_with (go_at_call 59; refine (valid_bad w v HH.out).mono ?_; rintro e w' ⟨rfl, rfl⟩)
  go_ret
  exact ⟨rfl, rfl⟩

set_option maxHeartbeats 400000 in
theorem copy_bad (w : World) (v : Value) (h : HBad w v) : Calls Try.prog 51 #[v] w (Ret (.pointer none) w) := by
  have HH := Lib.hid h
  clear h
  go_enter Try.func51, Try.ntmps51
  go_wp2_with (go_at_call 59; refine (valid_bad w v HH.out).mono ?_; rintro e w' ⟨rfl, rfl⟩)
  go_ret
  exact ⟨rfl, rfl⟩

set_option maxHeartbeats 1000000 in
theorem min_bad (w : World) (v : Value) (h : HBad w v) : Calls Try.prog 57 #[v] w (RetB (.tuple #[.agg #[.int .i64 0, .int .i64 0], .bool false]) w) := by
  have HH := Lib.hid h
  clear h
  have hb : Below w.heap.size w (w.alloc (.cells #[.int .i64 0, .int .i64 0] 28)) := (Below.refl _ _).alloc (Nat.le_refl _) _
  have HB := Lib.hid hb
  clear hb
  go_enter Try.func57, Try.ntmps57
  go_wp2_with (go_at_call 59; refine (valid_bad _ v (HH.out.below HB.out)).mono ?_; rintro e w' ⟨rfl, rfl⟩)
  exact bodyPost_ret (v := .tuple #[.agg #[.int .i64 0, .int .i64 0], .bool false]) (by simp [results, Try.results57, go_sem]) rfl ⟨rfl, HB.out⟩

set_option maxHeartbeats 1000000 in
theorem pop_bad (w : World) (v : Value) (h : HBad w v) : Calls Try.prog 23 #[v] w (RetB (.tuple #[.agg #[.int .i64 0, .int .i64 0], .bool false]) w) := by
  have hb1 : Below w.heap.size w (w.alloc (.cells #[.int .i64 0, .int .i64 0] 28)) := (Below.refl _ _).alloc (Nat.le_refl _) _
  have H1 := Lib.hid (h.below hb1)
  have HB1 := Lib.hid hb1
  clear h hb1
  go_enter Try.func23, Try.ntmps23
  go_wp2_with fail
  refine (min_bad _ v H1.out).mono ?_
  rintro e w1 ⟨rfl, hb2⟩
  have B1 := (Blk.new w 28 [.int .i64 0, .int .i64 0]).below hb2 (by simp)
  have hsz := hb2.size
  simp only [World.size_alloc] at hsz
  have hsz2 : w.heap.size < w1.heap.size := by omega
  have a0 := B1.cell (i := 0) rfl
  have a1 := B1.cell (i := 1) rfl
  have f0 := B1.free 0
  have f1 := B1.free 1
  have HB2 := Lib.hid (HB1.out.trans (hb2.mono (by simp)))
  have BB := Lib.hid B1
  clear hb2 B1 H1 HB1
  go_wp2_with fail
  have BW := (((BB.out.set 0 (.int .i64 0)).set 1 (.int .i64 0)).alloc (.cells #[.int .i64 0, .int .i64 0] 28))
  have d0 := BW.cell (i := 0) rfl
  have d1 := BW.cell (i := 1) rfl
  refine bodyPost_ret (v := .tuple #[.agg #[.int .i64 0, .int .i64 0], .bool false]) ?_ rfl ⟨rfl, ?_⟩
  · simp [results, Try.results23, go_sem, d0, d1]
  · exact ((HB2.out.setCell (Nat.le_refl _) _).setCell (Nat.le_refl _) _).alloc (by simp [World.setCell]; omega) _

structure HNilRel (w wr : World) : Prop where
  bel : Below w.heap.size w wr
  lst : Blk wr (w.heap.size + 1) 24 [.pointer none, .pointer (some ⟨w.heap.size, 0, none⟩)]
  zero : Blk wr w.heap.size 90 [.pointer none, .int .i64 0, .slice none 0 0, .slice none 0 0]

theorem HNilRel.below {w wr w' : World} (h : HNilRel w wr) (k : Below wr.heap.size wr w') : HNilRel w w' :=
  ⟨h.bel.trans (k.mono h.bel.size), h.lst.below k h.lst.lt, h.zero.below k h.zero.lt⟩

theorem HNilRel.at {w wr : World} (h : HNilRel w wr) {k : Nat} (hk : k < 2) : ∃ p, wr.cell? ⟨w.heap.size + 1, k, none⟩ = some (.pointer p) ∧ HBad wr (.pointer p) := by
  obtain rfl | rfl : k = 0 ∨ k = 1 := by omega
  · exact ⟨none, h.lst.cell (i := 0) rfl, ⟨.inl rfl⟩⟩
  · exact ⟨_, h.lst.cell (i := 1) rfl, ⟨.inr ⟨_, rfl, h.zero.cell (i := 0) rfl⟩⟩⟩

theorem HNilRel.start (w : World) : HNilRel w ((w.alloc (.cells #[.pointer none, .int .i64 0, .slice none 0 0, .slice none 0 0] 90)).alloc (.cells #[.pointer none, .pointer (some ⟨w.heap.size, 0, none⟩)] 24)) :=
  ⟨((Below.refl _ _).alloc (Nat.le_refl _) _).alloc (by simp) _, Blk.new' (w.alloc _) _ [_, _] (by simp), (Blk.new w _ [_, _, _, _]).alloc _⟩

set_option maxHeartbeats 4000000 in
set_option maxRecDepth 100000 in
theorem hnil_law (i key : Int) (w : World) :
    Calls Try.prog 20 #[.int .i64 i, .int .i64 key] w (RetB (.bool true) w) := by
  have HS := Lib.hid (HNilRel.start w)
  go_enter Try.func20, Try.ntmps20
  go_wp2_with fail
  go_loopw [8] (fun s1 wr => ∃ k : Nat, k ≤ 2 ∧ s1 = .int .i64 k ∧ HNilRel w wr) (fun s1 _ => 2 - (intOf s1).toNat)
  case atStart => exact ⟨0, by omega, rfl, HS.out⟩
  case round =>
    obtain ⟨k, hk, rfl, hr⟩ := hrel
    clear HS
    by_cases hlt : k < 2
    · obtain ⟨p, hc, hbad⟩ := hr.at hlt
      have HR := Lib.hid hr
      have HE := Lib.hid hbad
      clear hr hbad
      go_wp2_with fail
      with_reducible refine (min_bad wr _ HE.out).mono ?_
      rintro e w1 ⟨rfl, hb1⟩
      have hb2 : Below wr.heap.size wr (w1.alloc (.cells #[.int .i64 0, .int .i64 0] 28)) := hb1.alloc hb1.size _
      have BX := Lib.hid (Blk.new w1 28 [.int .i64 0, .int .i64 0])
      have R2 := Lib.hid (HR.out.below hb2)
      have E2 := Lib.hid (HE.out.below hb2)
      clear hb1 hb2 hc HR HE
      go_wp2_with fail
      generalize hW : World.alloc w1 _ = W2 at *
      generalize w1.heap.size = x at *
      clear hW
      with_reducible refine (pop_bad W2 _ E2.out).mono ?_
      rintro e w3 ⟨rfl, hb⟩
      have hb2 : Below W2.heap.size W2 (w3.alloc (.cells #[.int .i64 0, .int .i64 0] 28)) := hb.alloc hb.size _
      have R3 := Lib.hid (R2.out.below hb2)
      have E3 := Lib.hid (E2.out.below hb2)
      have X3 := BX.out.below hb2 BX.out.lt
      have Y3 := Blk.new w3 28 [.int .i64 0, .int .i64 0]
      have x0 := X3.cell (i := 0) rfl
      have x1 := X3.cell (i := 1) rfl
      have y0 := Y3.cell (i := 0) rfl
      have y1 := Y3.cell (i := 1) rfl
      clear hb hb2 R2 E2 BX X3 Y3
      go_wp2_with fail
      generalize hW : World.alloc w3 _ = W4 at *
      generalize w3.heap.size = y at *
      clear hW
      with_reducible refine (key_bad W4 _ E3.out _).mono ?_
      rintro e w' ⟨rfl, rfl⟩
      go_wp2_with (first
        | (go_at_call 49; refine (push_bad W4 _ E3.out _ _).mono ?_; rintro e w' ⟨rfl, rfl⟩)
        | (go_at_call 48; refine (change_bad W4 _ E3.out _ _).mono ?_; rintro e w' ⟨rfl, rfl⟩)
        | (go_at_call 47; refine (remove_bad W4 _ E3.out _).mono ?_; rintro e w' ⟨rfl, rfl⟩)
        | (go_at_call 24; refine (hlen_bad W4 _ E3.out).mono ?_; rintro e w' ⟨rfl, rfl⟩)
        | (go_at_call 42; refine (list_bad W4 _ E3.out).mono ?_; rintro e w' ⟨rfl, rfl⟩)
        | (go_at_call 51; refine (copy_bad W4 _ E3.out).mono ?_; rintro e w' ⟨rfl, rfl⟩))
      go_roundw
      case rel => exact ⟨k + 1, by omega, by go_num, R3.out⟩
      case measure => simp [intOf]; omega
    · have HR := Lib.hid hr
      clear hr
      go_wp2_with fail
      with_reducible refine (works04 _).mono ?_
      rintro e w' ⟨rfl, hb⟩
      have HB := Lib.hid (HR.out.bel.trans (hb.mono HR.out.bel.size))
      clear hb
      go_wp2_with fail
      go_ret
      exact ⟨rfl, HB.out⟩

end Go.Proofs.Ytebclbpibafkdaa
