/- Reference of layer 18: root, least, below, Above. -/
import Derived.Test.YtenhbfbfkcjimaaZRcDn
import Derived.Test.YtenhbfbfkcjimaaZMgB
namespace Go.Proofs.Ytenhbfbfkcjimaa
set_option linter.unusedVariables false
set_option linter.unusedSimpArgs false
open Go.RowKit

/-- The root r lies above x. -/
inductive Up (t : Tr) (m : Nat) : Nat → Nat → Prop
  | root {x : Nat} : x < m → gi t.par x = -1 → Up t m x x
  | step {x p r : Nat} : x < m → gi t.par x = p → x < p → Up t m p r → Up t m x r

theorem Up.lt {t : Tr} {m x r : Nat} (h : Up t m x r) : x < m := by cases h <;> assumption

theorem up_of {t : Tr} {n m : Nat} {ls : List Nat} (h : TV t n m ls) : ∀ x, x < m → Up t m x (rt t m x) :=
  h.down (Q := fun x => Up t m x (rt t m x)) (fun x hx e => by
    rw [rt_root h hx e]
    rcases h.par hx with e' | ⟨p, e', _⟩
    · exact .root hx e'
    · omega) (fun x p hx hp hlt hn e ih => by rw [rt_par h hx e]; exact .step hx e hlt ih)

/-- The least leaf below x is a. -/
inductive Low (t : Tr) (n m : Nat) : Nat → Nat → Prop
  | leaf {x : Nat} : x < n → Low t n m x x
  | node {x l r a b : Nat} : n ≤ x → x < m → gi t.left x = l → gi t.right x = r → Low t n m l a → Low t n m r b → Low t n m x (min a b)

theorem low_of {t : Tr} {n m : Nat} {ls : List Nat} (h : TV t n m ls) : ∀ x, x < m → Low t n m x (ls.getD x 0) := by
  intro x
  induction x using Nat.strongRecOn with
  | _ x ih =>
    intro hx
    by_cases c : x < n
    · rw [h.ls0 x c]; exact .leaf c
    · obtain ⟨c1, c2, _, _, _, c6, c7⟩ := h.child (x := x) (by omega) hx
      have hlt := (h.inn x (by omega) hx).2.1.2.2
      have e : ls.getD x 0 = min (ls.getD (lc t x) 0) (ls.getD (rc t x) 0) := by rw [h.ls1 x (by omega) hx]; omega
      rw [e]
      exact .node (by omega) hx c6 c7 (ih _ c1 (by omega)) (ih _ c2 (by omega))

set_option maxHeartbeats 2000000 in
set_option maxRecDepth 100000 in
theorem rroot_ok (w : World) (A : TA) (t : Tr) (ht : TreeAt w A t) (x r : Nat) (hu : Up t t.par.length x r) : Calls Try.prog 33 #[A.agg t, .int .i64 x] w (RetB (.int .i64 r) w) := by
  have HT := Lib.hid ht
  have HB := Lib.hid (TBox.new w A t)
  have HW := Lib.hid (bel_alloc w (.cells #[.int .i64 t.lv, .slice A.l.o t.left.length A.l.c, .slice A.r.o t.right.length A.r.c, .slice A.p.o t.par.length A.p.c, .slice A.h.o t.hgt.length A.h.c, .slice A.s.o t.siz.length A.s.c] 27))
  have HT2 := Lib.hid (ht.below HW.out)
  have c3 := HB.out.c3
  have hm := ht.ln.2.2.1
  have HU := Lib.hid hu
  obtain ⟨e1, _⟩ := HT2.out.p.get hu.lt
  clear ht hu
  show Calls _ _ #[.agg #[.int .i64 t.lv, .slice A.l.o t.left.length A.l.c, .slice A.r.o t.right.length A.r.c, .slice A.p.o t.par.length A.p.c, .slice A.h.o t.hgt.length A.h.c, .slice A.s.o t.siz.length A.s.c], _] _ _
  generalize A.p.o = po at *
  subst e1
  go_enter Try.func33, Try.ntmps33
  go_wp2_with fail
  go_loop [1] (fun s => ∃ y : Nat, s = .int .i64 y ∧ Up t t.par.length y r) (fun s => t.par.length - (intOf s).toNat)
  case atStart => exact ⟨x, rfl, HU.out⟩
  case round =>
    obtain ⟨y, rfl, hy⟩ := hrel
    have hyl := hy.lt
    obtain ⟨_, p1⟩ := HT2.out.p.get hyl
    have t1 : (y : Int) < (t.par.length : Int) := by omega
    have t2 : (0 : Int) ≤ (y : Int) := by omega
    cases hy with
    | root _ e =>
      rw [e] at p1
      clear e
      go_wp2_with fail
      go_ret
      exact ⟨rfl, HW.out⟩
    | @step _ p _ _ e hlt hp =>
      rw [e] at p1
      have HP := Lib.hid hp
      have hpl := hp.lt
      have t3 : (0 : Int) ≤ (p : Int) := by omega
      clear e hp
      go_wp2_with fail
      go_round
      case rel => exact ⟨p, rfl, HP.out⟩
      case measure => simp only [intOf, Int.toNat_natCast]; omega

set_option maxHeartbeats 4000000 in
set_option maxRecDepth 100000 in
theorem rleast_ok (A : TA) (t : Tr) (n : Nat) (hn : t.lv = (n : Int)) (hl : t.left.length = t.par.length) (hr : t.right.length = t.par.length) (x a : Nat) (hx : Low t n t.par.length x a) :
    ∀ w, TreeAt w A t → Calls Try.prog 34 #[A.agg t, .int .i64 x] w (RetB (.int .i64 a) w) := by
  induction hx with
  | leaf hxn =>
    rename_i x
    intro w ht
    have HW := Lib.hid (bel_alloc w (.cells #[.int .i64 t.lv, .slice A.l.o t.left.length A.l.c, .slice A.r.o t.right.length A.r.c, .slice A.p.o t.par.length A.p.c, .slice A.h.o t.hgt.length A.h.c, .slice A.s.o t.siz.length A.s.c] 27))
    have HB := Lib.hid (TBox.new w A t)
    have c0 := HB.out.c0
    clear ht
    show Calls _ _ #[.agg #[.int .i64 t.lv, .slice A.l.o t.left.length A.l.c, .slice A.r.o t.right.length A.r.c, .slice A.p.o t.par.length A.p.c, .slice A.h.o t.hgt.length A.h.c, .slice A.s.o t.siz.length A.s.c], _] _ _
    have t1 : decide ((x : Int) < t.lv) = true := by simp; omega
    have HN := Lib.hid hn
    have HL := Lib.hid hl
    have HR := Lib.hid hr
    clear hn hl hr
    go_enter Try.func34, Try.ntmps34
    go_wp2_with fail
    go_ret
    exact ⟨rfl, HW.out⟩
  | node hnx hxm e1 e2 _ _ ih1 ih2 =>
    rename_i x l r a b _ _
    intro w ht
    have HW := Lib.hid (bel_alloc w (.cells #[.int .i64 t.lv, .slice A.l.o t.left.length A.l.c, .slice A.r.o t.right.length A.r.c, .slice A.p.o t.par.length A.p.c, .slice A.h.o t.hgt.length A.h.c, .slice A.s.o t.siz.length A.s.c] 27))
    have HB := Lib.hid (TBox.new w A t)
    have HT2 := Lib.hid (ht.below HW.out)
    obtain ⟨f1, l1⟩ := HT2.out.l.get (i := x) (by omega)
    obtain ⟨f2, l2⟩ := HT2.out.r.get (i := x) (by omega)
    rw [e1] at l1
    rw [e2] at l2
    have c0 := HB.out.c0
    have c1 := HB.out.c1
    have c2 := HB.out.c2
    have c3 := HB.out.c3
    have c4 := HB.out.c4
    have c5 := HB.out.c5
    have t1 : decide ((x : Int) < t.lv) = false := by simp; omega
    have t2 : (x : Int) < (t.left.length : Int) := by omega
    have t3 : (x : Int) < (t.right.length : Int) := by omega
    have t4 : (0 : Int) ≤ (x : Int) := by omega
    have HN := Lib.hid hn
    have HL := Lib.hid hl
    have HR := Lib.hid hr
    have HI1 := Lib.hid ih1
    have HI2 := Lib.hid ih2
    clear hn hl hr ht ih1 ih2 e1 e2
    show Calls _ _ #[.agg #[.int .i64 t.lv, .slice A.l.o t.left.length A.l.c, .slice A.r.o t.right.length A.r.c, .slice A.p.o t.par.length A.p.c, .slice A.h.o t.hgt.length A.h.c, .slice A.s.o t.siz.length A.s.c], _] _ _
    have HA : Hid (∀ W, TreeAt W A t → Calls Try.prog 34 #[.agg #[.int .i64 t.lv, .slice A.l.o t.left.length A.l.c, .slice A.r.o t.right.length A.r.c, .slice A.p.o t.par.length A.p.c, .slice A.h.o t.hgt.length A.h.c, .slice A.s.o t.siz.length A.s.c], .int .i64 l] W (RetB (.int .i64 a) W)) := HI1.out
    have HC : Hid (∀ W, TreeAt W A t → Calls Try.prog 34 #[.agg #[.int .i64 t.lv, .slice A.l.o t.left.length A.l.c, .slice A.r.o t.right.length A.r.c, .slice A.p.o t.par.length A.p.c, .slice A.h.o t.hgt.length A.h.c, .slice A.s.o t.siz.length A.s.c], .int .i64 r] W (RetB (.int .i64 b) W)) := HI2.out
    clear HI1 HI2
    generalize A.l.o = lo at *
    generalize A.r.o = ro at *
    subst f1 f2
    go_enter Try.func34, Try.ntmps34
    go_wp2_with fail
    generalize (w.alloc (.cells #[.int .i64 t.lv, .slice (some ⟨A.l.b, A.l.f, none⟩) t.left.length A.l.c, .slice (some ⟨A.r.b, A.r.f, none⟩) t.right.length A.r.c, .slice A.p.o t.par.length A.p.c, .slice A.h.o t.hgt.length A.h.c, .slice A.s.o t.siz.length A.s.c] 27)) = W at *
    have x0 := cell_regrown c0
    have x1 := cell_regrown c1
    have x2 := cell_regrown c2
    have x3 := cell_regrown c3
    have x4 := cell_regrown c4
    have x5 := cell_regrown c5
    have x6 := cell_regrown l1
    have x7 := cell_regrown l2
    refine wp_region_quiet_below (by kernel_rfl) (by kernel_rfl) ?_
    repeat (go_big_quiet_step (first
      | (go_at_call 34; with_reducible (show Calls _ _ #[_, .int .i64 (l : Int)] _ _); exact Calls.regrown_of ((HA.out _ (HT2.out.below (below_regrown W _ _))).mono fun _ _ ⟨he, hb⟩ => ⟨he, hb⟩))
      | (go_at_call 34; with_reducible (show Calls _ _ #[_, .int .i64 (r : Int)] _ _); exact Calls.regrown_of ((HC.out _ (HT2.out.below (below_regrown W _ _))).mono fun _ _ ⟨he, hb⟩ => ⟨he, hb⟩))))
    refine wpQuiet_nil ?_
    intro W2 hw2
    obtain ⟨⟨dq, osq⟩, hw3⟩ := hw2
    have HBG : Hid (Below w.heap.size w W2) := bel_then HW.out (by rw [hw3]; exact below_regrown W dq osq)
    clear hw3 x0 x1 x2 x3 x4 x5 x6 x7
    by_cases hab : a < b
    · have t5 : decide (a < b) = true := by simp [hab]
      have HM : Hid (min a b = a) := Nat.min_eq_left (by omega)
      clear hab
      go_wp2_with fail
      go_ret
      rw [HM.out]
      exact ⟨rfl, HBG.out⟩
    · have t5 : decide (a < b) = false := by simp; omega
      have HM : Hid (min a b = b) := Nat.min_eq_right (by omega)
      clear hab
      go_wp2_with fail
      go_ret
      rw [HM.out]
      exact ⟨rfl, HBG.out⟩

end Go.Proofs.Ytenhbfbfkcjimaa
