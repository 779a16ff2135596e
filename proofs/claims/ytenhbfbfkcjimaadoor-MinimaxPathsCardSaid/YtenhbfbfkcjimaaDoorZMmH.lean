/- minimax: finders in which a number is no vertex: has returns false. -/
import Derived.Test.YtenhbfbfkcjimaaDoorZMgJ
import Derived.Test.YtenhbfbfkcjimaaDoorZMgL
namespace Go.Proofs.YtenhbfbfkcjimaaDoor
set_option linter.unusedVariables false
set_option linter.unusedSimpArgs false
open Go.RowKit

/-- u is no vertex of the finder f. -/
def NoHas (f : Value) (u : Int) (w : World) : Prop := ∀ W', Below w.heap.size w W' → Calls Tryd.prog 41 #[f, .int .i64 u] W' (Ret (.bool false) W')
theorem NoHas.call {f : Value} {u : Int} {w : World} (h : NoHas f u w) : Calls Tryd.prog 41 #[f, .int .i64 u] w (Ret (.bool false) w) := h w (Below.refl _ _)
theorem NoHas.below {f : Value} {u : Int} {w w' : World} (h : NoHas f u w) (hb : Below w.heap.size w w') : NoHas f u w' := fun W' hb' => h W' (bel_then hb hb')

theorem MObj.noHas {w : World} {M : MB} {n : Nat} {l : List Ed} (h : MObj w M n l) {u : Int} (hu : ¬ (0 ≤ u ∧ u < n)) : NoHas (.pointer (some ⟨M.f, 0, none⟩)) u w := fun W' hb => by
  have e : inB u n = false := by unfold inB; simp; omega
  rw [← e]
  exact mhas_ok W' M n l (h.below hb) u

/-- A nil finder, or one that New has not made. -/
def NilF (f : Value) (w : World) : Prop := f = .pointer none ∨ ∃ b, f = .pointer (some ⟨b, 0, none⟩) ∧ b < w.heap.size ∧ w.cell? ⟨b, 0, none⟩ = some (.pointer none)
theorem NilF.below {f : Value} {w w' : World} (h : NilF f w) (hb : Below w.heap.size w w') : NilF f w' := by
  rcases h with h | ⟨b, h1, h2, h3⟩
  · exact .inl h
  · exact .inr ⟨b, h1, Nat.lt_of_lt_of_le h2 hb.size, (hb.cell (p := ⟨b, 0, none⟩) h2).trans h3⟩

set_option maxHeartbeats 1000000 in
theorem NilF.noHas {f : Value} {w : World} (h : NilF f w) (u : Int) : NoHas f u w := fun W' hb => by
  rcases h.below hb with rfl | ⟨b, rfl, _, hc⟩
  · go_enter Tryd.func41, Tryd.ntmps41
    go_wp2_with fail
    go_ret
    exact ⟨rfl, rfl⟩
  · go_enter Tryd.func41, Tryd.ntmps41
    go_wp2_with fail
    go_ret
    exact ⟨rfl, rfl⟩
theorem NilF.ptr {f : Value} {w : World} (h : NilF f w) : ∃ a, f = .pointer a := by
  rcases h with h | ⟨b, h, _⟩
  · exact ⟨_, h⟩
  · exact ⟨_, h⟩

set_option maxHeartbeats 1000000 in
theorem meeting_no (w : World) (f : Value) (hf : ∃ a, f = .pointer a) (u v : Int) (hno : NoHas f u w) : Calls Tryd.prog 34 #[f, .int .i64 u, .int .i64 v] w (RetB (.tuple #[.int .i64 0, .bool false]) w) := by
  have HN := Lib.hid hno
  clear hno
  obtain ⟨a, rfl⟩ := hf
  go_enter Tryd.func34, Tryd.ntmps34
  go_wp2_with fail
  with_reducible refine HN.out.call.mono ?_
  rintro e w1 ⟨rfl, rfl⟩
  go_wp2_with fail
  go_ret2
  exact ⟨rfl, Below.refl _ _⟩

set_option maxHeartbeats 1000000 in
theorem minimax_no (w : World) (f : Value) (hf : ∃ a, f = .pointer a) (u v : Int) (hno : NoHas f u w) : Calls Tryd.prog 20 #[f, .int .i64 u, .int .i64 v] w (RetB (.tuple #[.int .i64 0, .bool false]) w) := by
  have HN := Lib.hid hno
  have HM := Lib.hid (meeting_no w f hf u v hno)
  clear hno
  obtain ⟨a, rfl⟩ := hf
  go_enter Tryd.func20, Tryd.ntmps20
  go_wp2_with fail
  with_reducible refine HN.out.call.mono ?_
  rintro e w1 ⟨rfl, rfl⟩
  go_wp2_with fail
  with_reducible refine HM.out.mono ?_
  rintro e w1 ⟨rfl, hb⟩
  have HB := Lib.hid hb
  clear hb
  go_wp2_with fail
  go_ret2
  exact ⟨rfl, HB.out⟩

set_option maxHeartbeats 1000000 in
theorem joined_no (w : World) (f : Value) (hf : ∃ a, f = .pointer a) (u v th : Int) (hno : NoHas f u w) : Calls Tryd.prog 25 #[f, .int .i64 u, .int .i64 v, .int .i64 th] w (RetB (.bool false) w) := by
  have HM := Lib.hid (minimax_no w f hf u v hno)
  clear hno
  obtain ⟨a, rfl⟩ := hf
  go_enter Tryd.func25, Tryd.ntmps25
  go_wp2_with fail
  with_reducible refine HM.out.mono ?_
  rintro e w1 ⟨rfl, hb⟩
  have HB := Lib.hid hb
  clear hb
  go_wp2_with fail
  go_ret
  exact ⟨rfl, HB.out⟩

set_option maxHeartbeats 1000000 in
theorem edge_no (w : World) (f : Value) (hf : ∃ a, f = .pointer a) (u v : Int) (hno : NoHas f u w) : Calls Tryd.prog 21 #[f, .int .i64 u, .int .i64 v] w (RetB (.tuple #[.int .i64 0, .bool false]) w) := by
  have HM := Lib.hid (meeting_no w f hf u v hno)
  clear hno
  obtain ⟨a, rfl⟩ := hf
  go_enter Tryd.func21, Tryd.ntmps21
  go_wp2_with fail
  with_reducible refine HM.out.mono ?_
  rintro e w1 ⟨rfl, hb⟩
  have HB := Lib.hid hb
  clear hb
  go_wp2_with fail
  go_ret2
  exact ⟨rfl, HB.out⟩

set_option maxHeartbeats 1000000 in
theorem path_no (w : World) (f : Value) (hf : ∃ a, f = .pointer a) (u v : Int) (hno : NoHas f u w) : Calls Tryd.prog 18 #[f, .int .i64 u, .int .i64 v] w (RetB (.slice none 0 0) w) := by
  have HM := Lib.hid (meeting_no w f hf u v hno)
  clear hno
  obtain ⟨a, rfl⟩ := hf
  go_enter Tryd.func18, Tryd.ntmps18
  go_wp2_with fail
  with_reducible refine HM.out.mono ?_
  rintro e w1 ⟨rfl, hb⟩
  have HB := Lib.hid hb
  clear hb
  go_wp2_with fail
  go_ret
  exact ⟨rfl, HB.out⟩

set_option maxHeartbeats 1000000 in
theorem count_nil (w : World) (f : Value) (h : NilF f w) (th : Int) : Calls Tryd.prog 22 #[f, .int .i64 th] w (RetB (.int .i64 0) w) := by
  rcases h with rfl | ⟨b, rfl, _, hc⟩
  · go_enter Tryd.func22, Tryd.ntmps22
    go_wp2_with fail
    go_ret
    exact ⟨rfl, Below.refl _ _⟩
  · go_enter Tryd.func22, Tryd.ntmps22
    go_wp2_with fail
    go_ret
    exact ⟨rfl, Below.refl _ _⟩

set_option maxHeartbeats 4000000 in
set_option maxRecDepth 100000 in
theorem comp1_no (F pb ub : Nat) (f : Value) (hf : ∃ a, f = .pointer a) (u : Int) (L : Nat) (W : World) (h1 : W.cell? ⟨pb, 0, none⟩ = some f) (h2 : W.cell? ⟨ub, 0, none⟩ = some (.int .i64 u)) (hno : NoHas f u W) :
    CallsIn Fence.wide F Tryd.prog 56 #[.func (.yield L) #[] #[], .pointer (some ⟨pb, 0, none⟩), .pointer (some ⟨ub, 0, none⟩)] W
      fun e W' => (∃ v, e = .returned v) ∧ W' = W := by
  have HN := Lib.hid hno
  clear hno
  obtain ⟨a, rfl⟩ := hf
  refine callsIn_of_wp Tryd.func56 rfl trivial ?_ rfl
  simp only [Tryd.ntmps56, List.size_toArray, List.length_cons, List.length_nil, Nat.reduceAdd, Nat.reduceSub, Array.replicate_succ, Array.replicate_zero, List.push_toArray, List.append_toArray, List.nil_append, List.cons_append]
  refine wpIn_wide.2 ?_
  go_wp2_with fail
  with_reducible refine HN.out.call.mono ?_
  rintro e w1 ⟨rfl, rfl⟩
  go_wp2_with fail
  exact ⟨rfl, _, results_none rfl _ _ _, ⟨_, rfl⟩, rfl⟩

/-- While the component is gone over. -/
structure FaN (w : World) (fp : Value) (pb ub vb tb ob cb kb L D : Nat) (u : Int) (s : Far) (r : Loop) (W : World) : Prop where
  xp : Blk W pb 25 [fp]
  xu : Blk W ub 3 [.int .i64 u]
  xv : Blk W vb 3 [.int .i64 (s.v : Int)]
  xt : Blk W tb 2 [.int .i64 s.t]
  xo : Blk W ob 4 [.bool s.ok]
  xc : Blk W cb 25 [fp]
  xk : Blk W kb 3 [.int .i64 u]
  lp : W.heap[L]? = some (.loop r)
  df : W.heap[D]? = some (.deferred (some []))
  bel : Below w.heap.size w W
  n1 : w.heap.size ≤ vb ∧ w.heap.size ≤ tb ∧ w.heap.size ≤ ob ∧ w.heap.size ≤ L
  n2 : (vb ≠ pb ∧ vb ≠ ub ∧ vb ≠ cb ∧ vb ≠ kb ∧ vb ≠ tb ∧ vb ≠ ob) ∧ (tb ≠ pb ∧ tb ≠ ub ∧ tb ≠ cb ∧ tb ≠ kb ∧ tb ≠ ob) ∧ (ob ≠ pb ∧ ob ≠ ub ∧ ob ≠ cb ∧ ob ≠ kb)

theorem FaN.turn {w : World} {fp : Value} {pb ub vb tb ob cb kb L D : Nat} {u : Int} {s : Far} {r : Loop} {W : World} (h : FaN w fp pb ub vb tb ob cb kb L D u s r W) (r' : Loop) : FaN w fp pb ub vb tb ob cb kb L D u s r' (W.putObj L (.loop r')) := by
  have hm : Mod (fun k => k = L) W (W.putObj L (.loop r')) := (Mod.refl _ _).putObj _ _ (fun _ => rfl)
  have hl := (Array.getElem?_eq_some_iff.1 h.lp).1
  have hdl : D ≠ L := fun e => by have h1 := h.df; rw [e, h.lp] at h1; cases h1
  have h4 := h.n1.2.2.2
  refine ⟨h.xp.mod hm (Blk.ne_obj h.xp h.lp rfl), h.xu.mod hm (Blk.ne_obj h.xu h.lp rfl), h.xv.mod hm (Blk.ne_obj h.xv h.lp rfl), h.xt.mod hm (Blk.ne_obj h.xt h.lp rfl), h.xo.mod hm (Blk.ne_obj h.xo h.lp rfl), h.xc.mod hm (Blk.ne_obj h.xc h.lp rfl), h.xk.mod hm (Blk.ne_obj h.xk h.lp rfl), ?_, ?_, bel_mod h.bel hm (fun x e => by rw [e]; exact h4), h.n1, h.n2⟩
  · simp [World.putObj, hl]
  · rw [hm.block D (Array.getElem?_eq_some_iff.1 h.df).1 hdl]; exact h.df

theorem FaN.below {w : World} {fp : Value} {pb ub vb tb ob cb kb L D : Nat} {u : Int} {s : Far} {r : Loop} {W W' : World} (h : FaN w fp pb ub vb tb ob cb kb L D u s r W) (hb : Below W.heap.size W W') : FaN w fp pb ub vb tb ob cb kb L D u s r W' :=
  ⟨h.xp.below hb h.xp.lt, h.xu.below hb h.xu.lt, h.xv.below hb h.xv.lt, h.xt.below hb h.xt.lt, h.xo.below hb h.xo.lt, h.xc.below hb h.xc.lt, h.xk.below hb h.xk.lt,
    (hb.block L (Array.getElem?_eq_some_iff.1 h.lp).1).trans h.lp, (hb.block D (Array.getElem?_eq_some_iff.1 h.df).1).trans h.df, bel_then h.bel hb, h.n1, h.n2⟩

theorem FaN.set {w : World} {fp : Value} {pb ub vb tb ob cb kb L D x : Nat} {u : Int} {s : Far} {d : Int} {k : Bool} {r : Loop} {W : World} (h : FaN w fp pb ub vb tb ob cb kb L D u s r W) :
    FaN w fp pb ub vb tb ob cb kb L D u ⟨x, d, k⟩ r (((W.setCell ⟨vb, 0, none⟩ (.int .i64 (x : Int))).setCell ⟨tb, 0, none⟩ (.int .i64 d)).setCell ⟨ob, 0, none⟩ (.bool k)) := by
  obtain ⟨⟨a1, a2, a3, a4, a5, a6⟩, ⟨b1, b2, b3, b4, b5⟩, c1, c2, c3, c4⟩ := h.n2
  have hm : Mod (fun k => k = vb ∨ k = tb ∨ k = ob) W (((W.setCell ⟨vb, 0, none⟩ (.int .i64 (x : Int))).setCell ⟨tb, 0, none⟩ (.int .i64 d)).setCell ⟨ob, 0, none⟩ (.bool k)) :=
    (((Mod.refl _ W).setCell ⟨vb, 0, none⟩ (fun _ => .inl rfl) _).setCell ⟨tb, 0, none⟩ (fun _ => .inr (.inl rfl)) _).setCell ⟨ob, 0, none⟩ (fun _ => .inr (.inr rfl)) _
  have lv := Blk.ne_obj h.xv h.lp rfl
  have lt := Blk.ne_obj h.xt h.lp rfl
  have lo := Blk.ne_obj h.xo h.lp rfl
  have dv := Blk.ne_obj h.xv h.df rfl
  have dt := Blk.ne_obj h.xt h.df rfl
  have dd := Blk.ne_obj h.xo h.df rfl
  have three : ∀ {z : Nat}, vb ≠ z → tb ≠ z → ob ≠ z → ¬ (z = vb ∨ z = tb ∨ z = ob) := fun q1 q2 q3 e => by
    rcases e with e | e | e
    · exact q1 e.symm
    · exact q2 e.symm
    · exact q3 e.symm
  refine ⟨h.xp.mod hm (three a1 b1 c1), h.xu.mod hm (three a2 b2 c2), ?_, ?_, ?_, h.xc.mod hm (three a3 b3 c3), h.xk.mod hm (three a4 b4 c4), ?_, ?_, bel_mod h.bel hm (fun y e => by
    rcases e with e | e | e
    · rw [e]; exact h.n1.1
    · rw [e]; exact h.n1.2.1
    · rw [e]; exact h.n1.2.2.1), h.n1, h.n2⟩
  · exact ((h.xv.set 0 _).other _ _ (by show vb ≠ tb; exact a5)).other _ _ (by show vb ≠ ob; exact a6)
  · exact ((h.xt.other _ _ (by show tb ≠ vb; exact fun e => a5 e.symm)).set 0 _).other _ _ (by show tb ≠ ob; exact b5)
  · exact ((h.xo.other _ _ (by show ob ≠ vb; exact fun e => a6 e.symm)).other _ _ (by show ob ≠ tb; exact fun e => b5 e.symm)).set 0 _
  · rw [hm.block L (Array.getElem?_eq_some_iff.1 h.lp).1 (three lv lt lo)]; exact h.lp
  · rw [hm.block D (Array.getElem?_eq_some_iff.1 h.df).1 (three dv dt dd)]; exact h.df

set_option maxHeartbeats 16000000 in
set_option maxRecDepth 100000 in
theorem farthest_no (w : World) (f : Value) (hf : ∃ a, f = .pointer a) (u : Int) (hno : NoHas f u w) :
    Calls Tryd.prog 27 #[f, .int .i64 u] w (RetB (.tuple #[.int .i64 0, .int .i64 0, .bool false]) w) := by
  refine (callsIn_wide (n := 3)).1 ?_
  have HN := Lib.hid hno
  clear hno
  obtain ⟨a, rfl⟩ := hf
  refine callsIn_of_wp_marks Tryd.func27 rfl trivial ?_ rfl
  simp only [Tryd.ntmps27, List.size_toArray, List.length_cons, List.length_nil, Nat.reduceAdd, Nat.reduceSub, Array.replicate_succ, Array.replicate_zero, List.push_toArray, List.append_toArray, List.nil_append, List.cons_append]
  refine wpIn_wide.2 ?_
  go_wp2_with fail
  obtain ⟨W1, hW1⟩ : ∃ W1, ((((w.alloc (.cells #[.pointer a] 25)).alloc (.cells #[.int .i64 u] 3)).alloc (.cells #[.int .i64 0] 3)).alloc (.cells #[.int .i64 0] 2)).alloc (.cells #[.bool false] 4) = W1 := ⟨_, rfl⟩
  have HW1 : Hid (Below w.heap.size w W1 ∧ W1.heap.size = w.heap.size + 5 ∧ Blk W1 w.heap.size 25 [.pointer a] ∧ Blk W1 (w.heap.size + 1) 3 [.int .i64 u] ∧ Blk W1 (w.heap.size + 1 + 1) 3 [.int .i64 0] ∧ Blk W1 (w.heap.size + 1 + 1 + 1) 2 [.int .i64 0] ∧ Blk W1 (w.heap.size + 1 + 1 + 1 + 1) 4 [.bool false]) := by
    rw [← hW1]
    refine ⟨((((bel_alloc w _).alloc (by simp) _).alloc (by simp; omega) _).alloc (by simp; omega) _).alloc (by simp; omega) _, by simp, ((((Blk.new _ _ [_]).alloc _).alloc _).alloc _).alloc _, (((Blk.new' _ _ [_] (by simp)).alloc _).alloc _).alloc _, ((Blk.new' _ _ [_] (by simp)).alloc _).alloc _, (Blk.new' _ _ [_] (by simp)).alloc _, Blk.new' _ _ [_] (by simp)⟩
  rw [hW1]
  clear hW1
  with_reducible refine (component_any (.pointer a) u W1 ⟨_, rfl⟩).mono ?_
  rintro e w3 ⟨rfl, rfl⟩
  go_wp2_with fail
  refine (wpIn_wide (n := 3)).1 ?_
  have HINV : Hid (∀ r : Loop, FaN w (.pointer a) w.heap.size (w.heap.size + 1) (w.heap.size + 1 + 1) (w.heap.size + 1 + 1 + 1) (w.heap.size + 1 + 1 + 1 + 1) W1.heap.size (W1.heap.size + 1) (W1.heap.size + 1 + 1 + 1) (W1.heap.size + 1 + 1) u ⟨0, 0, false⟩ r ((((W1.alloc (.cells #[.pointer a] 25)).alloc (.cells #[.int .i64 u] 3)).alloc (.deferred (some []))).alloc (.loop r))) := by
    intro r
    obtain ⟨b1, hs, x1, x2, x3, x4, x5⟩ := HW1.out
    have hbb : Below W1.heap.size W1 ((((W1.alloc (.cells #[.pointer a] 25)).alloc (.cells #[.int .i64 u] 3)).alloc (.deferred (some []))).alloc (.loop r)) := (((bel_alloc W1 _).alloc (by simp) _).alloc (by simp; omega) _).alloc (by simp; omega) _
    refine ⟨x1.below hbb x1.lt, x2.below hbb x2.lt, x3.below hbb x3.lt, x4.below hbb x4.lt, x5.below hbb x5.lt, (((Blk.new W1 _ [_]).alloc _).alloc _).alloc _, ((Blk.new' _ _ [_] (by simp)).alloc _).alloc _, ?_, ?_, bel_then b1 hbb, ⟨by omega, by omega, by omega, by omega⟩, ⟨by omega, by omega, by omega, by omega, by omega, by omega⟩, ⟨by omega, by omega, by omega, by omega, by omega⟩, by omega, by omega, by omega, by omega⟩
    · have := World.alloc_heap_new (((W1.alloc (.cells #[.pointer a] 25)).alloc (.cells #[.int .i64 u] 3)).alloc (.deferred (some []))) (.loop r)
      simpa using this
    · rw [Below.heap_alloc _ _ _ (by simp)]
      have := World.alloc_heap_new ((W1.alloc (.cells #[.pointer a] 25)).alloc (.cells #[.int .i64 u] 3)) (.deferred (some []))
      simpa using this
  have HSZE := Lib.hid HW1.out.2.1
  clear HW1
  refine wp_range (gf := 56) (lb := #[.pointer (some ⟨W1.heap.size, 0, none⟩), .pointer (some ⟨W1.heap.size + 1, 0, none⟩)]) rfl (enters_of Tryd.func56 (by kernel_rfl) rfl)
    (fun W3 => ∃ r, FaN w (.pointer a) w.heap.size (w.heap.size + 1) (w.heap.size + 1 + 1) (w.heap.size + 1 + 1 + 1) (w.heap.size + 1 + 1 + 1 + 1) W1.heap.size (W1.heap.size + 1) (W1.heap.size + 1 + 1 + 1) (W1.heap.size + 1 + 1) u ⟨0, 0, false⟩ r W3) ?call ?done
  case call =>
    intro fn
    simp only [World.size_alloc, List.append_toArray, List.cons_append, List.nil_append]
    refine CallsIn.mono (comp1_no 2 W1.heap.size (W1.heap.size + 1) (.pointer a) ⟨_, rfl⟩ u (W1.heap.size + 1 + 1 + 1) _ ((HINV.out _).xc.cell (i := 0) rfl) ((HINV.out _).xk.cell (i := 0) rfl) (HN.out.below (HINV.out _).bel)) ?_
    rintro e W2 ⟨hv, rfl⟩
    exact ⟨hv, (HINV.out _).lp, (HINV.out _).df, _, HINV.out _⟩
  case done =>
    rintro W2 r' ⟨r, hi⟩
    simp only [World.size_alloc]
    have hi3 := hi.turn r'
    generalize World.putObj W2 _ _ = W3 at hi3 ⊢
    clear hi
    have HI := Lib.hid hi3
    clear hi3
    obtain ⟨⟨a1, a2, a3, a4, a5, a6⟩, ⟨b1, b2, b3, b4, b5⟩, c1, c2, c3, c4⟩ := HI.out.n2
    have cv := HI.out.xv.cell (i := 0) rfl
    have ct := HI.out.xt.cell (i := 0) rfl
    have co := HI.out.xo.cell (i := 0) rfl
    have fv := HI.out.xv.free 0
    have ft := HI.out.xt.free 0
    have fo := HI.out.xo.free 0
    clear a1 a2 a3 a4 b1 b2 b3 b4 c1 c2 c3 c4
    go_wp2_with fail
    go_region
    go_wp2_with fail
    have HS5 := Lib.hid ((HI.out.set (x := 0) (d := 0) (k := false)).below ((Below.refl _ _).drew))
    clear HI cv ct co fv ft fo
    generalize (((W3.setCell ⟨w.heap.size + 1 + 1, 0, none⟩ (.int .i64 0)).setCell ⟨w.heap.size + 1 + 1 + 1, 0, none⟩ (.int .i64 0)).setCell ⟨w.heap.size + 1 + 1 + 1 + 1, 0, none⟩ (.bool false)).drew = W5 at *
    refine ⟨by simp, .inl ⟨_, _, rfl, run_takeDeferred HS5.out.df, ?_⟩⟩
    have hm : Mod (fun x => x = W1.heap.size + 1 + 1) W5 (W5.putObj (W1.heap.size + 1 + 1) (.deferred none)) := (Mod.refl _ _).putObj _ _ (fun _ => rfl)
    have cv := (HS5.out.xv.mod hm (Blk.ne_obj HS5.out.xv HS5.out.df rfl)).cell (i := 0) rfl
    have ct := (HS5.out.xt.mod hm (Blk.ne_obj HS5.out.xt HS5.out.df rfl)).cell (i := 0) rfl
    have co := (HS5.out.xo.mod hm (Blk.ne_obj HS5.out.xo HS5.out.df rfl)).cell (i := 0) rfl
    have hz := HSZE.out
    refine ⟨_, results_cell3 (x := .int .i64 0) (y := .int .i64 0) (z := .bool false) rfl rfl rfl rfl (by simp [go_sem, cv]) (by simp [go_sem, ct]) (by simp [go_sem, co]), ?_⟩
    exact ⟨rfl, bel_mod HS5.out.bel hm (fun x e => by omega)⟩

end Go.Proofs.YtenhbfbfkcjimaaDoor
