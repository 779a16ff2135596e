/- RcDn, RcRf, RcTp, RcLv, RcLw. -/
import Derived.Test.YthacjealoomioaaGreatDoorZGe
import Derived.Test.YthacjealoomioaaGreatDoorZGa
import Derived.Test.YthacjealoomioaaGreatDoorZGf
import Derived.Test.YthacjealoomioaaGreatDoorZGb
import Derived.Test.YthacjealoomioaaGreatDoorZGg
import Derived.Test.YthacjealoomioaaGreatDoorZGd
/- recon.down: the nodes from the last one on. recon.Check, recon.Least. -/
namespace Go.Proofs.YthacjealoomioaaGreatDoor
set_option linter.unusedVariables false
set_option linter.unusedSimpArgs false
open Go.RowKit Go.Shelf
attribute [local go_sem] Oper.semAt_some

/-- What Check returns. -/
def chk (t : Tr) : Int := match lsL t with | none => 2 | some _ => 0
theorem chk_none {t : Tr} (h : lsL t = none) : chk t = 2 := by unfold chk; rw [h]
theorem chk_some {t : Tr} {ls : List Nat} (h : lsL t = some ls) : chk t = 0 := by unfold chk; rw [h]

set_option maxHeartbeats 1000000 in
set_option maxRecDepth 100000 in
theorem check_ok (w : World) (A : TA) (t : Tr) (ht : TreeAt w A t) : Calls Tryz.prog 26 #[A.agg t] w (RetB (.int .i64 (chk t)) w) := by
  have HT := Lib.hid ht
  have HB := Lib.hid (TBox.new w A t)
  have HW := Lib.hid (bel_alloc w (.cells #[.int .i64 t.lv, .slice A.l.o t.left.length A.l.c, .slice A.r.o t.right.length A.r.c, .slice A.p.o t.par.length A.p.c, .slice A.h.o t.hgt.length A.h.c, .slice A.s.o t.siz.length A.s.c] 27))
  have HT2 := Lib.hid (ht.below HW.out)
  have c0 := HB.out.c0
  have c1 := HB.out.c1
  have c2 := HB.out.c2
  have c3 := HB.out.c3
  have c4 := HB.out.c4
  have c5 := HB.out.c5
  clear ht
  show Calls _ _ #[.agg #[.int .i64 t.lv, .slice A.l.o t.left.length A.l.c, .slice A.r.o t.right.length A.r.c, .slice A.p.o t.par.length A.p.c, .slice A.h.o t.hgt.length A.h.c, .slice A.s.o t.siz.length A.s.c]] _ _
  go_enter Tryz.func26, Tryz.ntmps26
  go_wp2_with fail
  with_reducible refine (leasts_ok _ A t HT2.out).mono ?_
  rintro e w2 ⟨hbad, hgood, hb⟩
  have HW2 := Lib.hid (bel_then HW.out hb)
  clear hb
  cases hl : lsL t with
  | none =>
    obtain rfl := hbad hl
    have HC := Lib.hid (chk_none hl)
    clear hl hbad hgood
    go_wp2_with fail
    go_ret
    exact ⟨ret_int HC.out.symm, HW2.out⟩
  | some ls =>
    obtain ⟨lb, rfl, _⟩ := hgood ls hl
    have HC := Lib.hid (chk_some hl)
    clear hl hbad hgood
    go_wp2_with fail
    go_ret
    exact ⟨ret_int HC.out.symm, HW2.out⟩

/-- A list that is returned: new, or nil. -/
structure LnPost (w : World) (o : Option (List Nat)) (e : Ending) (w' : World) : Prop where
  bad : o = none → e = .returned (.slice none 0 0)
  ok : ∀ l, o = some l → ∃ v, e = .returned v ∧ w'.ownsRow 0 3 1 v l.length (natV l) ∧ ∀ k, v.ownBlock = some k → w.heap.size ≤ k
  bel : Below w.heap.size w w'

theorem owns_blk2 {w : World} {b : Nat} {T : TypeId} {l : List Nat} (h : Blk w b T (natV l)) (hl : l.length ≤ 1000000) : w.ownsRow 0 T 1 (.slice (some ⟨b, 0, none⟩) l.length l.length) l.length (natV l) := by
  have := owns_blk h (by rw [natV_len]; omega)
  rw [natV_len] at this
  exact this

theorem ls_le {t : Tr} {ls : List Nat} (h : lsL t = some ls) : ls.length = t.par.length ∧ ls.length ≤ 8192 := by
  obtain ⟨⟨⟨h1, h2, h3, h4⟩, _⟩, e, _⟩ := lsL_iff.1 h
  rw [e, lowF_len]
  exact ⟨rfl, by omega⟩

set_option maxHeartbeats 1000000 in
set_option maxRecDepth 100000 in
theorem least_ok (w : World) (A : TA) (t : Tr) (ht : TreeAt w A t) : Calls Tryz.prog 55 #[A.agg t] w (LnPost w (lsL t)) := by
  have HT := Lib.hid ht
  have HB := Lib.hid (TBox.new w A t)
  have HW := Lib.hid (bel_alloc w (.cells #[.int .i64 t.lv, .slice A.l.o t.left.length A.l.c, .slice A.r.o t.right.length A.r.c, .slice A.p.o t.par.length A.p.c, .slice A.h.o t.hgt.length A.h.c, .slice A.s.o t.siz.length A.s.c] 27))
  have HT2 := Lib.hid (ht.below HW.out)
  have c0 := HB.out.c0
  have c1 := HB.out.c1
  have c2 := HB.out.c2
  have c3 := HB.out.c3
  have c4 := HB.out.c4
  have c5 := HB.out.c5
  clear ht
  show Calls _ _ #[.agg #[.int .i64 t.lv, .slice A.l.o t.left.length A.l.c, .slice A.r.o t.right.length A.r.c, .slice A.p.o t.par.length A.p.c, .slice A.h.o t.hgt.length A.h.c, .slice A.s.o t.siz.length A.s.c]] _ _
  go_enter Tryz.func55, Tryz.ntmps55
  go_wp2_with fail
  with_reducible refine (leasts_ok _ A t HT2.out).mono ?_
  rintro e w2 ⟨hbad, hgood, hb⟩
  have HS := Lib.hid HW.out.size
  have HW2 := Lib.hid (bel_then HW.out hb)
  clear hb
  cases hl : lsL t with
  | none =>
    obtain rfl := hbad hl
    have HL0 := Lib.hid hl
    clear hl hbad hgood
    go_wp2_with fail
    go_ret
    exact ⟨fun _ => rfl, (fun l e => by (rw [HL0.out] at e; cases e)), HW2.out⟩
  | some ls =>
    obtain ⟨lb, rfl, hb, hn⟩ := hgood ls hl
    have HBK := Lib.hid hb
    have HL := Lib.hid (ls_le hl)
    have HL0 := Lib.hid hl
    have HN := Lib.hid hn
    clear hl hbad hgood hb hn
    go_wp2_with fail
    go_ret
    refine ⟨(fun e => by (rw [HL0.out] at e; cases e)), fun l e => ?_, HW2.out⟩
    rw [HL0.out] at e
    injection e with e
    subst e
    refine ⟨.slice (some ⟨lb, 0, none⟩) ls.length ls.length, rfl, owns_blk2 HBK.out (by have := HL.out; omega), fun k hk => ?_⟩
    have e : lb = k := by simpa [Value.ownBlock] using hk
    have h1 := HN.out
    have h2 := HS.out
    omega

end Go.Proofs.YthacjealoomioaaGreatDoor

/- Reference of layer 18: root, least, below, Above. -/
namespace Go.Proofs.YthacjealoomioaaGreatDoor
set_option linter.unusedVariables false
set_option linter.unusedSimpArgs false
open Go.RowKit

/-- The root r lies above x. -/
inductive Up (t : Tr) (m : Nat) : Nat → Nat → Prop
  | root {x : Nat} : x < m → gi t.par x = -1 → Up t m x x
  | step {x p r : Nat} : x < m → gi t.par x = p → x < p → Up t m p r → Up t m x r

theorem Up.lt {t : Tr} {m x r : Nat} (h : Up t m x r) : x < m := by cases h <;> assumption

theorem up_of {t : Tr} {n m : Nat} {ls : List Nat} (h : TV t n m ls) : ∀ x, x < m → Up t m x (rt t m x) :=
  h.down (Q := fun x => Up t m x (rt t m x)) (fun x hx e => by
    rw [rt_root h hx e]
    rcases h.par hx with e' | ⟨p, e', _⟩
    · exact .root hx e'
    · omega) (fun x p hx hp hlt hn e ih => by rw [rt_par h hx e]; exact .step hx e hlt ih)

/-- The least leaf below x is a. -/
inductive Low (t : Tr) (n m : Nat) : Nat → Nat → Prop
  | leaf {x : Nat} : x < n → Low t n m x x
  | node {x l r a b : Nat} : n ≤ x → x < m → gi t.left x = l → gi t.right x = r → Low t n m l a → Low t n m r b → Low t n m x (min a b)

theorem low_of {t : Tr} {n m : Nat} {ls : List Nat} (h : TV t n m ls) : ∀ x, x < m → Low t n m x (ls.getD x 0) := by
  intro x
  induction x using Nat.strongRecOn with
  | _ x ih =>
    intro hx
    by_cases c : x < n
    · rw [h.ls0 x c]; exact .leaf c
    · obtain ⟨c1, c2, _, _, _, c6, c7⟩ := h.child (x := x) (by omega) hx
      have hlt := (h.inn x (by omega) hx).2.1.2.2
      have e : ls.getD x 0 = min (ls.getD (lc t x) 0) (ls.getD (rc t x) 0) := by rw [h.ls1 x (by omega) hx]; omega
      rw [e]
      exact .node (by omega) hx c6 c7 (ih _ c1 (by omega)) (ih _ c2 (by omega))

set_option maxHeartbeats 2000000 in
set_option maxRecDepth 100000 in
theorem rroot_ok (w : World) (A : TA) (t : Tr) (ht : TreeAt w A t) (x r : Nat) (hu : Up t t.par.length x r) : Calls Tryz.prog 38 #[A.agg t, .int .i64 x] w (RetB (.int .i64 r) w) := by
  have HT := Lib.hid ht
  have HB := Lib.hid (TBox.new w A t)
  have HW := Lib.hid (bel_alloc w (.cells #[.int .i64 t.lv, .slice A.l.o t.left.length A.l.c, .slice A.r.o t.right.length A.r.c, .slice A.p.o t.par.length A.p.c, .slice A.h.o t.hgt.length A.h.c, .slice A.s.o t.siz.length A.s.c] 27))
  have HT2 := Lib.hid (ht.below HW.out)
  have c3 := HB.out.c3
  have hm := ht.ln.2.2.1
  have HU := Lib.hid hu
  obtain ⟨e1, _⟩ := HT2.out.p.get hu.lt
  clear ht hu
  show Calls _ _ #[.agg #[.int .i64 t.lv, .slice A.l.o t.left.length A.l.c, .slice A.r.o t.right.length A.r.c, .slice A.p.o t.par.length A.p.c, .slice A.h.o t.hgt.length A.h.c, .slice A.s.o t.siz.length A.s.c], _] _ _
  generalize A.p.o = po at *
  subst e1
  go_enter Tryz.func38, Tryz.ntmps38
  go_wp2_with fail
  go_loop [1] (fun s => ∃ y : Nat, s = .int .i64 y ∧ Up t t.par.length y r) (fun s => t.par.length - (intOf s).toNat)
  case atStart => exact ⟨x, rfl, HU.out⟩
  case round =>
    obtain ⟨y, rfl, hy⟩ := hrel
    have hyl := hy.lt
    obtain ⟨_, p1⟩ := HT2.out.p.get hyl
    have t1 : (y : Int) < (t.par.length : Int) := by omega
    have t2 : (0 : Int) ≤ (y : Int) := by omega
    cases hy with
    | root _ e =>
      rw [e] at p1
      clear e
      go_wp2_with fail
      go_ret
      exact ⟨rfl, HW.out⟩
    | @step _ p _ _ e hlt hp =>
      rw [e] at p1
      have HP := Lib.hid hp
      have hpl := hp.lt
      have t3 : (0 : Int) ≤ (p : Int) := by omega
      clear e hp
      go_wp2_with fail
      go_round
      case rel => exact ⟨p, rfl, HP.out⟩
      case measure => simp only [intOf, Int.toNat_natCast]; omega

set_option maxHeartbeats 4000000 in
set_option maxRecDepth 100000 in
theorem rleast_ok (A : TA) (t : Tr) (n : Nat) (hn : t.lv = (n : Int)) (hl : t.left.length = t.par.length) (hr : t.right.length = t.par.length) (x a : Nat) (hx : Low t n t.par.length x a) :
    ∀ w, TreeAt w A t → Calls Tryz.prog 39 #[A.agg t, .int .i64 x] w (RetB (.int .i64 a) w) := by
  induction hx with
  | leaf hxn =>
    rename_i x
    intro w ht
    have HW := Lib.hid (bel_alloc w (.cells #[.int .i64 t.lv, .slice A.l.o t.left.length A.l.c, .slice A.r.o t.right.length A.r.c, .slice A.p.o t.par.length A.p.c, .slice A.h.o t.hgt.length A.h.c, .slice A.s.o t.siz.length A.s.c] 27))
    have HB := Lib.hid (TBox.new w A t)
    have c0 := HB.out.c0
    clear ht
    show Calls _ _ #[.agg #[.int .i64 t.lv, .slice A.l.o t.left.length A.l.c, .slice A.r.o t.right.length A.r.c, .slice A.p.o t.par.length A.p.c, .slice A.h.o t.hgt.length A.h.c, .slice A.s.o t.siz.length A.s.c], _] _ _
    have t1 : decide ((x : Int) < t.lv) = true := by simp; omega
    have HN := Lib.hid hn
    have HL := Lib.hid hl
    have HR := Lib.hid hr
    clear hn hl hr
    go_enter Tryz.func39, Tryz.ntmps39
    go_wp2_with fail
    go_ret
    exact ⟨rfl, HW.out⟩
  | node hnx hxm e1 e2 _ _ ih1 ih2 =>
    rename_i x l r a b _ _
    intro w ht
    have HW := Lib.hid (bel_alloc w (.cells #[.int .i64 t.lv, .slice A.l.o t.left.length A.l.c, .slice A.r.o t.right.length A.r.c, .slice A.p.o t.par.length A.p.c, .slice A.h.o t.hgt.length A.h.c, .slice A.s.o t.siz.length A.s.c] 27))
    have HB := Lib.hid (TBox.new w A t)
    have HT2 := Lib.hid (ht.below HW.out)
    obtain ⟨f1, l1⟩ := HT2.out.l.get (i := x) (by omega)
    obtain ⟨f2, l2⟩ := HT2.out.r.get (i := x) (by omega)
    rw [e1] at l1
    rw [e2] at l2
    have c0 := HB.out.c0
    have c1 := HB.out.c1
    have c2 := HB.out.c2
    have c3 := HB.out.c3
    have c4 := HB.out.c4
    have c5 := HB.out.c5
    have t1 : decide ((x : Int) < t.lv) = false := by simp; omega
    have t2 : (x : Int) < (t.left.length : Int) := by omega
    have t3 : (x : Int) < (t.right.length : Int) := by omega
    have t4 : (0 : Int) ≤ (x : Int) := by omega
    have HN := Lib.hid hn
    have HL := Lib.hid hl
    have HR := Lib.hid hr
    have HI1 := Lib.hid ih1
    have HI2 := Lib.hid ih2
    clear hn hl hr ht ih1 ih2 e1 e2
    show Calls _ _ #[.agg #[.int .i64 t.lv, .slice A.l.o t.left.length A.l.c, .slice A.r.o t.right.length A.r.c, .slice A.p.o t.par.length A.p.c, .slice A.h.o t.hgt.length A.h.c, .slice A.s.o t.siz.length A.s.c], _] _ _
    have HA : Hid (∀ W, TreeAt W A t → Calls Tryz.prog 39 #[.agg #[.int .i64 t.lv, .slice A.l.o t.left.length A.l.c, .slice A.r.o t.right.length A.r.c, .slice A.p.o t.par.length A.p.c, .slice A.h.o t.hgt.length A.h.c, .slice A.s.o t.siz.length A.s.c], .int .i64 l] W (RetB (.int .i64 a) W)) := HI1.out
    have HC : Hid (∀ W, TreeAt W A t → Calls Tryz.prog 39 #[.agg #[.int .i64 t.lv, .slice A.l.o t.left.length A.l.c, .slice A.r.o t.right.length A.r.c, .slice A.p.o t.par.length A.p.c, .slice A.h.o t.hgt.length A.h.c, .slice A.s.o t.siz.length A.s.c], .int .i64 r] W (RetB (.int .i64 b) W)) := HI2.out
    clear HI1 HI2
    generalize A.l.o = lo at *
    generalize A.r.o = ro at *
    subst f1 f2
    go_enter Tryz.func39, Tryz.ntmps39
    go_wp2_with fail
    generalize (w.alloc (.cells #[.int .i64 t.lv, .slice (some ⟨A.l.b, A.l.f, none⟩) t.left.length A.l.c, .slice (some ⟨A.r.b, A.r.f, none⟩) t.right.length A.r.c, .slice A.p.o t.par.length A.p.c, .slice A.h.o t.hgt.length A.h.c, .slice A.s.o t.siz.length A.s.c] 27)) = W at *
    have x0 := cell_regrown c0
    have x1 := cell_regrown c1
    have x2 := cell_regrown c2
    have x3 := cell_regrown c3
    have x4 := cell_regrown c4
    have x5 := cell_regrown c5
    have x6 := cell_regrown l1
    have x7 := cell_regrown l2
    refine wp_region_quiet_below (by kernel_rfl) (by kernel_rfl) ?_
    repeat (go_big_quiet_step (first
      | (go_at_call 39; with_reducible (show Calls _ _ #[_, .int .i64 (l : Int)] _ _); exact Calls.regrown_of ((HA.out _ (HT2.out.below (below_regrown W _ _))).mono fun _ _ ⟨he, hb⟩ => ⟨he, hb⟩))
      | (go_at_call 39; with_reducible (show Calls _ _ #[_, .int .i64 (r : Int)] _ _); exact Calls.regrown_of ((HC.out _ (HT2.out.below (below_regrown W _ _))).mono fun _ _ ⟨he, hb⟩ => ⟨he, hb⟩))))
    refine wpQuiet_nil ?_
    intro W2 hw2
    obtain ⟨⟨dq, osq⟩, hw3⟩ := hw2
    have HBG : Hid (Below w.heap.size w W2) := bel_then HW.out (by rw [hw3]; exact below_regrown W dq osq)
    clear hw3 x0 x1 x2 x3 x4 x5 x6 x7
    by_cases hab : a < b
    · have t5 : decide (a < b) = true := by simp [hab]
      have HM : Hid (min a b = a) := Nat.min_eq_left (by omega)
      clear hab
      go_wp2_with fail
      go_ret
      rw [HM.out]
      exact ⟨rfl, HBG.out⟩
    · have t5 : decide (a < b) = false := by simp; omega
      have HM : Hid (min a b = b) := Nat.min_eq_right (by omega)
      clear hab
      go_wp2_with fail
      go_ret
      rw [HM.out]
      exact ⟨rfl, HBG.out⟩

end Go.Proofs.YthacjealoomioaaGreatDoor

/- recon.Top, recon.Roots. -/
namespace Go.Proofs.YthacjealoomioaaGreatDoor
set_option linter.unusedVariables false
set_option linter.unusedSimpArgs false
open Go.RowKit

/-- What Top returns. -/
def topV (t : Tr) (leaf th : Int) : Int × Int :=
  if lsL t = none then (0, 2) else if leaf < 0 ∨ t.lv ≤ leaf then (0, 3) else (((ab t t.par.length th leaf.toNat : Nat) : Int), 0)

theorem tv_of {t : Tr} {ls : List Nat} (h : lsL t = some ls) : ∃ n, t.lv = ((n : Nat) : Int) ∧ TV t n t.par.length ls := by
  obtain ⟨n, m, hv, _⟩ := TV.of_ls h
  obtain rfl : t.par.length = m := hv.pl
  exact ⟨n, hv.lv, hv⟩

/-- The closure of Roots. -/
def lsC (ls : List Nat) (x y : Nat) : Int := cmpI ((ls.getD x 0 : Nat) : Int) ((ls.getD y 0 : Nat) : Int)

theorem lsC_neg (ls : List Nat) (x y : Nat) : lsC ls x y < 0 ↔ ls.getD x 0 < ls.getD y 0 := by
  unfold lsC cmpI
  by_cases h1 : ((ls.getD x 0 : Nat) : Int) < ((ls.getD y 0 : Nat) : Int)
  · rw [if_pos h1]; constructor
    · intro _; omega
    · intro _; decide
  · rw [if_neg h1]; split
    · constructor
      · intro h; omega
      · intro h; omega
    · constructor
      · intro h; omega
      · intro h; omega

set_option maxRecDepth 100000 in
set_option maxHeartbeats 1000000 in
theorem rootf_ok (w : World) (lp lb m : Nat) (hm : m ≤ 8192) (hc : w.cell? ⟨lp, 0, none⟩ = some (.slice (some ⟨lb, 0, none⟩) m m)) (ls : List Nat) (hb : Blk w lb 3 (natV ls)) (hl : ls.length = m) (x y : Nat) (hx : x < m) (hy : y < m) :
    Calls Tryz.prog 88 #[.int .i64 x, .int .i64 y, .pointer (some ⟨lp, 0, none⟩)] w (fun e w' => e = .returned (.int .i64 (lsC ls x y)) ∧ ∃ q os', w' = Go.Sort.grow (w.drewN q) os') := by
  have cx := blkN hb (i := x) (by omega)
  have cy := blkN hb (i := y) (by omega)
  have HO : Hid (cmpI ((ls.getD x 0 : Nat) : Int) ((ls.getD y 0 : Nat) : Int) = lsC ls x y) := rfl
  generalize ls.getD x 0 = a at *
  generalize ls.getD y 0 = b at *
  have HH : Hid (∃ q os', w.drew = Go.Sort.grow (w.drewN q) os') := ⟨1, #[], by simp [Go.Sort.grow]; rfl⟩
  have t1 : (x : Int) < (m : Int) := by omega
  have t2 : (y : Int) < (m : Int) := by omega
  have t3 : (0 : Int) ≤ (x : Int) := by omega
  have t4 : (0 : Int) ≤ (y : Int) := by omega
  clear hb hl
  go_enter Tryz.func88, Tryz.ntmps88
  go_wp2_with fail
  refine region_tail 9 (by kernel_rfl) (by kernel_rfl) ?_
  intro w2 hw2
  rw [← hw2] at HH
  have d0 : w2.cell? ⟨lp, 0, none⟩ = some (.slice (some ⟨lb, 0, none⟩) m m) := by rw [hw2]; exact hc
  have d1 : w2.cell? ⟨lb, x, none⟩ = some (.int .i64 a) := by rw [hw2]; exact cx
  have d2 : w2.cell? ⟨lb, y, none⟩ = some (.int .i64 b) := by rw [hw2]; exact cy
  clear hw2 hc cx cy
  simp only [List.take_succ_cons, List.take_zero, List.drop_succ_cons, List.drop_zero]
  repeat still_step
  still_call (Ret.still (comparei a b _))
  refine wpStill_nil ?_
  clear d0 d1 d2
  go_wp2_with fail
  go_ret
  exact ⟨ret_int HO.out, HH.out⟩

/-- The roots among the first i nodes. -/
def topsTo (t : Tr) (i : Nat) : List Nat := (List.range i).filter fun x => decide (gi t.par x < 0)
theorem topsTo_succ (t : Tr) (i : Nat) : topsTo t (i + 1) = if gi t.par i < 0 then topsTo t i ++ [i] else topsTo t i := by
  unfold topsTo
  rw [List.range_succ, List.filter_append]
  by_cases h : gi t.par i < 0
  · rw [if_pos h]; simp [h]
  · rw [if_neg h]; simp [h]
theorem topsTo_len (t : Tr) (i : Nat) : (topsTo t i).length ≤ i := by
  have := List.length_filter_le (fun x => decide (gi t.par x < 0)) (List.range i)
  rw [List.length_range] at this
  exact this

/-- What Roots returns. -/
def rootsO (t : Tr) : Option (List Nat) := match lsL t with | none => none | some ls => some (rootsL t t.lv.toNat t.par.length ls)
theorem rootsO_none {t : Tr} (h : lsL t = none) : rootsO t = none := by unfold rootsO; rw [h]
theorem rootsO_some {t : Tr} {ls : List Nat} (h : lsL t = some ls) : rootsO t = some (rootsL t t.lv.toNat t.par.length ls) := by unfold rootsO; rw [h]

set_option maxHeartbeats 4000000 in
set_option maxRecDepth 100000 in
theorem roots_ok (w : World) (A : TA) (t : Tr) (ht : TreeAt w A t) : Calls Tryz.prog 58 #[A.agg t] w (LnPost w (rootsO t)) := by
  have HT := Lib.hid ht
  have HB := Lib.hid (TBox.new w A t)
  have HW := Lib.hid (bel_alloc w (.cells #[.int .i64 t.lv, .slice A.l.o t.left.length A.l.c, .slice A.r.o t.right.length A.r.c, .slice A.p.o t.par.length A.p.c, .slice A.h.o t.hgt.length A.h.c, .slice A.s.o t.siz.length A.s.c] 27))
  have HT2 := Lib.hid (ht.below HW.out)
  have c0 := HB.out.c0
  have c1 := HB.out.c1
  have c2 := HB.out.c2
  have c3 := HB.out.c3
  have c4 := HB.out.c4
  have c5 := HB.out.c5
  clear ht
  show Calls _ _ #[.agg #[.int .i64 t.lv, .slice A.l.o t.left.length A.l.c, .slice A.r.o t.right.length A.r.c, .slice A.p.o t.par.length A.p.c, .slice A.h.o t.hgt.length A.h.c, .slice A.s.o t.siz.length A.s.c]] _ _
  generalize hpo : A.p.o = po at *
  have HPO := Lib.hid hpo
  clear hpo
  have eg : ∀ args w, (callFunc 88 args).run Tryz.prog w = .ok (.enter 88 args) w := enters_of Tryz.func88 (by kernel_rfl) rfl
  have HEG := Lib.hid eg
  clear eg
  go_enter Tryz.func58, Tryz.ntmps58
  go_wp2_with fail
  have hcon := leasts_ok _ A t HT2.out
  rw [TA.agg, HPO.out] at hcon
  with_reducible refine hcon.mono ?_
  rintro e w2 ⟨hbad, hgood, hb⟩
  have HW2 := Lib.hid (bel_then HW.out hb)
  have HB2 := Lib.hid (Blk.below HB.out hb (Blk.lt HB.out))
  have HT3 := Lib.hid (HT2.out.below hb)
  have HS := Lib.hid HW.out.size
  clear hb hcon c0 c1 c2 c3 c4 c5
  cases hl : lsL t with
  | none =>
    obtain rfl := hbad hl
    have HC := Lib.hid (rootsO_none hl)
    have HW3 := Lib.hid (HW2.out.alloc HW2.out.size (.cells #[.slice none 0 0] 24))
    clear hl hbad hgood
    go_wp2_with fail
    go_ret
    exact ⟨fun _ => rfl, (fun l e => by (rw [HC.out] at e; cases e)), HW3.out⟩
  | some ls =>
    obtain ⟨lb, rfl, hlb, hlbn⟩ := hgood ls hl
    obtain ⟨n, hn, hv⟩ := tv_of hl
    have HC : Hid (rootsO t = some (rootsL t n t.par.length ls)) := by show _ = _; rw [rootsO_some hl, hn, Int.toNat_natCast]
    have HV := Lib.hid hv
    have hn4 := hv.hn
    have hm2 := hv.two
    have HLL := Lib.hid hv.lsl
    have HLB := Lib.hid (hlb.alloc (.cells #[.slice (some ⟨lb, 0, none⟩) ls.length ls.length] 24))
    have HLP := Lib.hid (Blk.new w2 24 [.slice (some ⟨lb, 0, none⟩) ls.length ls.length])
    have HW3 := Lib.hid (HW2.out.alloc HW2.out.size (.cells #[.slice (some ⟨lb, 0, none⟩) ls.length ls.length] 24))
    have HB3 := Lib.hid (Blk.alloc HB2.out (.cells #[.slice (some ⟨lb, 0, none⟩) ls.length ls.length] 24))
    have HT4 := Lib.hid (HT3.out.below (bel_alloc w2 (.cells #[.slice (some ⟨lb, 0, none⟩) ls.length ls.length] 24)))
    have HLN := Lib.hid hlbn
    have b3 := TBox.c3 HB3.out
    rw [HPO.out] at b3
    clear hl hbad hgood hv hn hlb hlbn HB HB2 HT2 HT3
    go_wp2_with fail
    clear b3
    have hlp : w.heap.size ≤ w2.heap.size := HW2.out.size
    have hsz3 : w2.heap.size < (w2.alloc (.cells #[.slice (some ⟨lb, 0, none⟩) ls.length ls.length] 24)).heap.size := by simp
    have hlb3 := HLB.out.lt
    generalize w2.alloc (.cells #[.slice (some ⟨lb, 0, none⟩) ls.length ls.length] 24) = w3 at *
    generalize w2.heap.size = lp at *
    go_loopw [5, 18] (fun v s wr => ∃ i : Nat, i ≤ t.par.length ∧ s = .int .i64 i ∧ wr.ownsRow 0 3 1 v (topsTo t i).length (natV (topsTo t i)) ∧ (∀ x, v.ownBlock = some x → w3.heap.size ≤ x) ∧ Below w3.heap.size w3 wr) (fun _ s _ => t.par.length - (intOf s).toNat)
    case atStart => exact ⟨0, Nat.zero_le _, rfl, World.ownsRow_nil _ _ _ _, fun x hx => (by cases hx), Below.refl _ _⟩
    case round =>
      obtain ⟨i, hi, rfl, hv, hvn, hb⟩ := hrel
      have HVR := Lib.hid hv
      have HVN := Lib.hid hvn
      have HBR := Lib.hid hb
      have HT5 := Lib.hid (HT4.out.below hb)
      have HWR := Lib.hid (bel_then HW3.out hb)
      clear hv hvn hb
      by_cases him : i < t.par.length
      · obtain ⟨e1, p1⟩ := HT5.out.p.get (i := i) him
        rw [HPO.out] at e1
        subst e1
        have HTS := Lib.hid (topsTo_succ t i)
        have htl := topsTo_len t i
        generalize gi t.par i = p at *
        have t1 : (i : Int) < (t.par.length : Int) := by omega
        have t2 : (0 : Int) ≤ (i : Int) := by omega
        generalize hT : topsTo t i = T at *
        generalize hT' : topsTo t (i + 1) = T' at *
        have HT' := Lib.hid hT'
        clear hT hT'
        by_cases hp : p < 0
        · have t3 : decide (p < 0) = true := by simp [hp]
          have HTT : Hid (T' = T ++ [i]) := HTS.out.trans (if_pos hp)
          have HOW := Lib.hid (HVR.out.alloc (.cells #[.int .i64 i] 3))
          have HNW := Lib.hid (news_new wr 3 [.int .i64 i])
          clear hp
          go_wp2_with (at_builtin; apply keepIt)
          apply Lib.hid
          refine wpList_appendB 3 (.int .i64 0) 1 8 Tryz.underlying24 Tryz.infoInt rfl (by decide) _ T.length _ rfl HOW.out ⟨wr.heap.size, 0, none⟩ 1 1 [.int .i64 i] rfl rfl HNW.out (by simp [Value.oneCell']) (by unfold maxLen; omega) (by omega) ?_
          intro v6 w6 ho6 hg6 hn6
          have hwr := HBR.out.size
          have HB6 : Hid (Below w3.heap.size w3 w6) := (HBR.out.alloc (by omega) _).trans (grown_below hg6 (fun k hk => HVN.out k hk) (by simp; omega))
          have HV6 : Hid (w6.ownsRow 0 3 1 v6 T'.length (natV T')) := by
            show World.ownsRow _ _ _ _ _ _ _
            rw [HTT.out, List.length_append]
            have e : natV (T ++ [i]) = natV T ++ [.int .i64 (i : Int)] := by simp [natV]
            rw [e]
            exact ho6
          have HN6 : Hid (∀ x, v6.ownBlock = some x → w3.heap.size ≤ x) := fun x hx => by
            rcases hn6 x hx with e | e
            · exact HVN.out x e
            · simp at e; omega
          clear ho6 hg6 hn6
          go_wp2_with fail
          go_roundw
          case rel => exact ⟨i + 1, by omega, by go_num, by rw [HT'.out]; exact HV6.out, HN6.out, HB6.out⟩
          case measure => simp [intOf]; omega
        · have t3 : decide (p < 0) = false := by simp; omega
          have HTT : Hid (T' = T) := HTS.out.trans (if_neg hp)
          clear hp
          go_wp2_with fail
          go_roundw
          case rel => exact ⟨i + 1, by omega, by go_num, by rw [HT'.out, HTT.out]; exact HVR.out, HVN.out, HBR.out⟩
          case measure => simp [intOf]; omega
      · obtain rfl : i = t.par.length := by omega
        have hP := roots_perm HV.out
        have hlen := hP.length_eq
        have hTl := topsTo_len t t.par.length
        have hTT : topsTo t t.par.length = tops t t.par.length := rfl
        have HRP : Hid ((rootsL t n t.par.length ls).Perm (topsTo t t.par.length)) := hP
        have HRS := Lib.hid (roots_sorted HV.out)
        have hRl : (topsTo t t.par.length).length = (rootsL t n t.par.length ls).length := hlen.symm
        have HMEM : Hid (∀ x, x ∈ topsTo t t.par.length → x < t.par.length ∧ gi t.par x < 0) := fun x hx => by
          have := List.mem_filter.1 hx
          rw [List.mem_range, decide_eq_true_eq] at this
          exact this
        clear hP hlen hTT
        have HRL := Lib.hid hRl
        generalize rootsL t n t.par.length ls = RL at *
        generalize topsTo t t.par.length = T at *
        by_cases h0 : T.length = 0
        · obtain ⟨ao, cap, rfl⟩ := owns_slice HVR.out
          rw [h0]
          have HH0 : Hid (RL = []) := List.eq_nil_of_length_eq_zero (by omega)
          have HT0 : Hid (T = []) := List.eq_nil_of_length_eq_zero h0
          clear h0 hRl
          go_wp2_with fail
          with_reducible refine (sortN_none wr ao cap _).mono ?_
          rintro e w6 ⟨rfl, rfl⟩
          go_wp2_with fail
          go_ret
          refine ⟨(fun e => by (rw [HC.out] at e; cases e)), fun l e => ?_, HWR.out⟩
          rw [HC.out] at e
          injection e with e
          subst e
          have hv := HVR.out
          rw [HT0.out] at hv
          rw [HH0.out]
          refine ⟨.slice ao 0 cap, rfl, hv, fun k hk => ?_⟩
          have := HVN.out k (by cases ao with | none => cases hk | some a => simpa [Value.ownBlock] using hk)
          have := HW3.out.size
          omega
        · obtain ⟨g, cap, rfl, _, _, _, _, _⟩ := owns_form HVR.out (by omega)
          have hgn := HVN.out g rfl
          have HGN := Lib.hid hgn
          have HRN : Hid (∀ x, x ∈ T → rt t t.par.length (ls.getD x 0) = x) := fun x hx => by
            obtain ⟨h1, h2⟩ := HMEM.out x hx
            rw [rt_ls HV.out x h1, rt_root HV.out h1 h2]
          have hcon := (sortN_ok wr g T.length cap T HVR.out rfl (by omega) (by omega) (fun x y => ls.getD x 0 < ls.getD y 0) (fun a => Nat.lt_irrefl _) (fun _ _ _ => Nat.lt_trans)
            (fun x hx y hy h1 h2 => by
              have e : ls.getD x 0 = ls.getD y 0 := by omega
              rw [← HRN.out x hx, ← HRN.out y hy, e])
            (lsC ls) (fun x _ y _ => lsC_neg ls x y) 88 #[.pointer (some ⟨lp, 0, none⟩)] HEG.out
            (fun W hW x hx y hy => rootf_ok W lp lb ls.length (by have := HLL.out; omega) (((HLP.out.below HBR.out (by omega)).mod hW (fun e => by have := HGN.out; omega)).cell (i := 0) rfl) ls ((HLB.out.below HBR.out (by omega)).mod hW (fun e => by have := HGN.out; omega)) rfl x y
              (by have := (HMEM.out x hx).1; have := HLL.out; omega) (by have := (HMEM.out y hy).1; have := HLL.out; omega))
            RL HRP.out HRS.out)
          clear h0 hRl hgn
          go_wp2_with fail
          with_reducible refine hcon.mono ?_
          rintro e w6 ⟨rfl, ho6, hm6⟩
          have HO6 := Lib.hid ho6
          have HW6 := Lib.hid (bel_mod HWR.out hm6 (fun x e => by have := HGN.out; have := HW3.out.size; omega))
          clear ho6 hm6 hcon
          go_wp2_with fail
          go_ret
          refine ⟨(fun e => by (rw [HC.out] at e; cases e)), fun l e => ?_, HW6.out⟩
          rw [HC.out] at e
          injection e with e
          subst e
          have hv := HO6.out
          rw [HRL.out] at hv
          rw [HRL.out]
          refine ⟨.slice (some ⟨g, 0, none⟩) RL.length cap, rfl, hv, fun k hk => ?_⟩
          have := HVN.out k (by simpa [Value.ownBlock] using hk)
          have := HW3.out.size
          omega

end Go.Proofs.YthacjealoomioaaGreatDoor

/- recon.Labels. -/
namespace Go.Proofs.YthacjealoomioaaGreatDoor
set_option linter.unusedVariables false
set_option linter.unusedSimpArgs false
open Go.RowKit Go.Shelf
attribute [local go_sem] Oper.semAt_some

theorem Blk.ne_obj {W : World} {b L : Nat} {T : TypeId} {cs : List Value} {o : Obj} (h : Blk W b T cs) (hL : W.heap[L]? = some o) (ho : o.isCells = false) : b ≠ L := fun e => by
  unfold Blk at h
  rw [e, hL] at h
  injection h with h
  rw [h] at ho
  cases ho

theorem Src.of_take {w : World} {T : TypeId} {vo : Option Addr} {m vc n : Nat} {l : List Nat} (h : w.ownsRow 0 T 1 (.slice vo m vc) m (natV l)) (hn : n ≤ m) : Src w vo n vc 1 (natV (l.take n)) := by
  have hl : l.length = m := by have := h.1; rw [natV_len] at this; omega
  refine ⟨by rw [natV_len, List.length_take]; omega, fun ad he j u hu => ?_, fun he => ?_, natV_one _⟩
  · subst he
    rcases h.2 with ⟨h', _⟩ | ⟨g, cap, cur, h', hb, hg, _⟩
    · simp at h'
    · injection h' with e1 _ e3
      injection e1 with e1
      subst e1 e3
      refine owns_cells h j u ?_
      unfold natV at hu ⊢
      rw [List.map_take, List.getElem?_take] at hu
      split at hu
      · exact hu
      · cases hu
  · rcases h.2 with ⟨h', h0⟩ | ⟨g, cap, cur, h', _⟩
    · injection h' with _ _ e; exact ⟨by omega, by omega⟩
    · injection h' with e; rw [he] at e; cases e

end Go.Proofs.YthacjealoomioaaGreatDoor

/- recon.Leaves. -/
namespace Go.Proofs.YthacjealoomioaaGreatDoor
set_option linter.unusedVariables false
set_option linter.unusedSimpArgs false
open Go.RowKit Go.Shelf
attribute [local go_sem] Oper.semAt_some

/-- What Leaves returns. -/
def leavesO (t : Tr) (node : Int) : Option (List Nat) :=
  match lsL t with | none => none | some ls => if node < 0 ∨ (t.par.length : Int) ≤ node then none else some (leavesL t t.lv.toNat t.par.length node.toNat)
theorem leavesO_none {t : Tr} {node : Int} (h : lsL t = none) : leavesO t node = none := by unfold leavesO; rw [h]
theorem leavesO_out {t : Tr} {node : Int} (h : node < 0 ∨ (t.par.length : Int) ≤ node) : leavesO t node = none := by
  unfold leavesO
  split
  · rfl
  · exact if_pos h
theorem leavesO_some {t : Tr} {node : Int} {ls : List Nat} (h : lsL t = some ls) (h2 : ¬ (node < 0 ∨ (t.par.length : Int) ≤ node)) : leavesO t node = some (leavesL t t.lv.toNat t.par.length node.toNat) := by
  unfold leavesO; rw [h]; exact if_neg h2

/-- The leaves below node among the first i. -/
def lvTo (t : Tr) (m node i : Nat) : List Nat := (List.range i).filter fun v => bl t m node v
theorem lvTo_succ (t : Tr) (m node i : Nat) : lvTo t m node (i + 1) = if bl t m node i = true then lvTo t m node i ++ [i] else lvTo t m node i := by
  unfold lvTo
  rw [List.range_succ, List.filter_append]
  by_cases h : bl t m node i = true
  · rw [if_pos h]; simp [h]
  · rw [if_neg h]; simp [h]
theorem lvTo_len (t : Tr) (m node i : Nat) : (lvTo t m node i).length ≤ i := by
  have := List.length_filter_le (fun v => bl t m node v) (List.range i)
  rw [List.length_range] at this
  exact this

end Go.Proofs.YthacjealoomioaaGreatDoor
