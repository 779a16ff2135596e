/- The statement MinimaxNil: the walk. -/
import Derived.Test.YtenhbfbfkcjimaaDoorZMmH
import Derived.Test.YtenhbfbfkcjimaaDoorZMmW
namespace Go.Proofs.YtenhbfbfkcjimaaDoor
set_option linter.unusedVariables false
set_option linter.unusedSimpArgs false
open Go.RowKit

/-- What the loop finds in memory. -/
structure NilW (w W : World) (u v th : Int) : Prop where
  q : Blk W w.heap.size 33 [.int .i64 u, .int .i64 v, .int .i64 th]
  f : Blk W (w.heap.size + 1) 56 [.pointer none]
  r : Blk W (w.heap.size + 1 + 1) 25 [.pointer none, .pointer (some ⟨w.heap.size + 1, 0, none⟩)]
  b : Below w.heap.size w W
theorem NilW.below {w W W' : World} {u v th : Int} (h : NilW w W u v th) (hb : Below W.heap.size W W') : NilW w W' u v th := ⟨h.q.below hb h.q.lt, h.f.below hb h.f.lt, h.r.below hb h.r.lt, bel_then h.b hb⟩

def nilAt (w : World) (k : Nat) : Value := if k = 0 then .pointer none else .pointer (some ⟨w.heap.size + 1, 0, none⟩)
theorem nilAt_nil {w W : World} {u v th : Int} (h : NilW w W u v th) {k : Nat} (hk : k < 2) : NilF (nilAt w k) W ∧ W.cell? ⟨w.heap.size + 1 + 1, k, none⟩ = some (nilAt w k) := by
  have : k = 0 ∨ k = 1 := by omega
  rcases this with rfl | rfl
  · exact ⟨.inl rfl, h.r.cell (i := 0) rfl⟩
  · exact ⟨.inr ⟨_, rfl, h.f.lt, h.f.cell (i := 0) rfl⟩, h.r.cell (i := 1) rfl⟩

set_option maxHeartbeats 16000000 in
set_option maxRecDepth 100000 in
theorem nil_law (w : World) (hT : Tab64 w) (u v th : Int) :
    Calls Tryd.prog 12 #[.agg #[.int .i64 u, .int .i64 v, .int .i64 th]] w (RetB (.bool true) w) := by
  have HT := Lib.hid hT
  clear hT
  obtain ⟨W1, hW1⟩ : ∃ W1, ((w.alloc (.cells #[.int .i64 u, .int .i64 v, .int .i64 th] 33)).alloc (.cells #[.pointer none] 56)).alloc (.cells #[.pointer none, .pointer (some ⟨w.heap.size + 1, 0, none⟩)] 25) = W1 := ⟨_, rfl⟩
  have HW : Hid (NilW w W1 u v th) := by
    rw [← hW1]
    exact ⟨((Blk.new w _ [_, _, _]).alloc _).alloc _, (Blk.new' _ _ [_] (by simp)).alloc _, Blk.new' _ _ [_, _] (by simp), ((bel_alloc w _).alloc (by simp) _).alloc (by simp; omega) _⟩
  go_enter Tryd.func12, Tryd.ntmps12
  go_wp2_with fail
  clear hW1
  go_loopw [5] (fun s wr => ∃ k : Nat, k ≤ 2 ∧ s = .int .i64 k ∧ NilW w wr u v th) (fun s _ => 2 - (intOf s).toNat)
  case atStart => exact ⟨0, Nat.zero_le _, rfl, HW.out⟩
  case round =>
    obtain ⟨k, hk, rfl, hr⟩ := hrel
    by_cases hk2 : k < 2
    · obtain ⟨hn, hc⟩ := nilAt_nil hr hk2
      have HN := Lib.hid hn
      obtain ⟨a, ha⟩ := hn.ptr
      rw [ha] at hc HN
      have t1 : (k : Int) < 2 := by omega
      have t0 : (0 : Int) ≤ (k : Int) := by omega
      have HR := Lib.hid hr
      have c0 := hr.q.cell (i := 0) rfl
      have c1 := hr.q.cell (i := 1) rfl
      clear hr ha hn
      go_wp2_with fail
      with_reducible refine (minimax_no wr (.pointer a) ⟨_, rfl⟩ u v (HN.out.noHas u)).mono ?_
      rintro e v1 ⟨rfl, hb⟩
      have HR1 := Lib.hid (HR.out.below hb)
      have HN1 := Lib.hid (HN.out.below hb)
      clear hb HR HN c0 c1
      have c0 := HR1.out.q.cell (i := 0) rfl
      have c1 := HR1.out.q.cell (i := 1) rfl
      go_wp2_with fail
      with_reducible refine (edge_no v1 (.pointer a) ⟨_, rfl⟩ u v (HN1.out.noHas u)).mono ?_
      rintro e v2 ⟨rfl, hb⟩
      have HR2 := Lib.hid (HR1.out.below hb)
      have HN2 := Lib.hid (HN1.out.below hb)
      clear hb HR1 HN1 c0 c1
      have c0 := HR2.out.q.cell (i := 0) rfl
      have c1 := HR2.out.q.cell (i := 1) rfl
      go_wp2_with fail
      with_reducible refine (farthest_no v2 (.pointer a) ⟨_, rfl⟩ u (HN2.out.noHas u)).mono ?_
      rintro e v3 ⟨rfl, hb⟩
      have HR3 := Lib.hid (HR2.out.below hb)
      have HN3 := Lib.hid (HN2.out.below hb)
      clear hb HR2 HN2 c0 c1
      have c0 := HR3.out.q.cell (i := 0) rfl
      have c1 := HR3.out.q.cell (i := 1) rfl
      have c2 := HR3.out.q.cell (i := 2) rfl
      go_wp2_with fail
      with_reducible refine (joined_no v3 (.pointer a) ⟨_, rfl⟩ u v th (HN3.out.noHas u)).mono ?_
      rintro e v4 ⟨rfl, hb⟩
      have HR4 := Lib.hid (HR3.out.below hb)
      have HN4 := Lib.hid (HN3.out.below hb)
      clear hb HR3 HN3 c0 c1 c2
      have c0 := HR4.out.q.cell (i := 0) rfl
      have c1 := HR4.out.q.cell (i := 1) rfl
      have c2 := HR4.out.q.cell (i := 2) rfl
      go_wp2_with fail
      with_reducible refine (path_no v4 (.pointer a) ⟨_, rfl⟩ u v (HN4.out.noHas u)).mono ?_
      rintro e v5 ⟨rfl, hb⟩
      have HR5 := Lib.hid (HR4.out.below hb)
      have HN5 := Lib.hid (HN4.out.below hb)
      clear hb HR4 HN4 c0 c1 c2
      have c0 := HR5.out.q.cell (i := 0) rfl
      have c1 := HR5.out.q.cell (i := 1) rfl
      have c2 := HR5.out.q.cell (i := 2) rfl
      go_wp2_with fail
      with_reducible refine (count_nil v5 (.pointer a) HN5.out th).mono ?_
      rintro e v6 ⟨rfl, hb⟩
      have HR6 := Lib.hid (HR5.out.below hb)
      have HN6 := Lib.hid (HN5.out.below hb)
      clear hb HR5 HN5 c0 c1 c2
      go_wp2_with fail
      go_roundw
      case rel => exact ⟨k + 1, by omega, by go_num, HR6.out⟩
      case measure => simp [intOf]; omega
    · obtain rfl : k = 2 := by omega
      have HR := Lib.hid hr
      clear hr
      go_wp2_with fail
      with_reducible refine (mworks_ok _ (HT.out.below HR.out.b)).mono ?_
      rintro e w9 ⟨rfl, hb⟩
      have HB9 := Lib.hid (bel_then HR.out.b hb)
      clear hb
      go_wp2_with fail
      go_ret
      exact ⟨rfl, HB9.out⟩

end Go.Proofs.YtenhbfbfkcjimaaDoor
