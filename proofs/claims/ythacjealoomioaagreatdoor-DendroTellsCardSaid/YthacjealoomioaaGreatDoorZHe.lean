/- RfD, RfE, RfQ, RfB, RfBc. -/
import Derived.Test.YthacjealoomioaaGreatDoorZHd
import Derived.Test.YthacjealoomioaaGreatDoorZGe
import Derived.Test.YthacjealoomioaaGreatDoorZGk
import Derived.Test.YthacjealoomioaaGreatDoorZGj
import Derived.Test.YthacjealoomioaaGreatDoorZGb
import Derived.Test.YthacjealoomioaaGreatDoorZGd
/- Reference of layer 18: a tree that grows in memory; node. -/
namespace Go.Proofs.YthacjealoomioaaGreatDoor
set_option linter.unusedVariables false
set_option linter.unusedSimpArgs false
open Go.RowKit

theorem intV_snoc (l : List Int) (x : Int) : intV (l ++ [x]) = intV l ++ [.int .i64 x] := by simp [intV]
/-- The five rows. -/
structure RV where
  l : Value
  r : Value
  p : Value
  h : Value
  s : Value

def RV.at (V : RV) (i : Nat) : Value := if i = 0 then V.l else if i = 1 then V.r else if i = 2 then V.p else if i = 3 then V.h else V.s
def Tr.at (t : Tr) (i : Nat) : List Int := if i = 0 then t.left else if i = 1 then t.right else if i = 2 then t.par else if i = 3 then t.hgt else t.siz
def rvT (i : Nat) : TypeId := if i = 3 then 2 else 3

/-- A tree whose lists grow: its box, and five rows of its own. -/
structure RTr (B : Nat) (W : World) (tb : Nat) (V : RV) (t : Tr) : Prop where
  box : Blk W tb 27 [.int .i64 t.lv, V.l, V.r, V.p, V.h, V.s]
  own : ∀ i, i < 5 → W.ownsRow 0 (rvT i) 1 (V.at i) (t.at i).length (intV (t.at i))
  ne : ∀ i j, i < 5 → j < 5 → i ≠ j → ∀ x, (V.at i).ownBlock = some x → (V.at j).ownBlock ≠ some x
  nb : ∀ i, i < 5 → ∀ x, (V.at i).ownBlock = some x → x ≠ tb ∧ B ≤ x
  tbn : B ≤ tb

theorem RTr.mod {F : Nat → Prop} {B : Nat} {W W' : World} {tb : Nat} {V : RV} {t : Tr} (h : RTr B W tb V t) (m : Mod F W W') (hF : ∀ x, x < W.heap.size → ¬ F x) : RTr B W' tb V t :=
  ⟨h.box.mod m (hF tb h.box.lt), fun i hi => owns_mod (h.own i hi) m (fun x hx => hF x (own_lt (h.own i hi) hx)), h.ne, h.nb, h.tbn⟩
theorem RTr.below {B : Nat} {W W' : World} {tb : Nat} {V : RV} {t : Tr} (h : RTr B W tb V t) (m : Below W.heap.size W W') : RTr B W' tb V t := h.mod (Mod.of_below (F := fun _ => False) m) (fun _ _ h => h)

/-- One row put into the tree. -/
def RV.put (V : RV) (i : Nat) (v : Value) : RV := ⟨if i = 0 then v else V.l, if i = 1 then v else V.r, if i = 2 then v else V.p, if i = 3 then v else V.h, if 4 ≤ i then v else V.s⟩
def Tr.put (t : Tr) (i : Nat) (z : List Int) : Tr := ⟨t.lv, if i = 0 then z else t.left, if i = 1 then z else t.right, if i = 2 then z else t.par, if i = 3 then z else t.hgt, if 4 ≤ i then z else t.siz⟩

theorem RV.put_at (V : RV) {i j : Nat} (hi : i < 5) (hj : j < 5) (v : Value) : (V.put i v).at j = if j = i then v else V.at j := by
  have h1 : i = 0 ∨ i = 1 ∨ i = 2 ∨ i = 3 ∨ i = 4 := by omega
  have h2 : j = 0 ∨ j = 1 ∨ j = 2 ∨ j = 3 ∨ j = 4 := by omega
  rcases h1 with rfl | rfl | rfl | rfl | rfl <;> rcases h2 with rfl | rfl | rfl | rfl | rfl <;> rfl
theorem Tr.put_at (t : Tr) {i j : Nat} (hi : i < 5) (hj : j < 5) (z : List Int) : (t.put i z).at j = if j = i then z else t.at j := by
  have h1 : i = 0 ∨ i = 1 ∨ i = 2 ∨ i = 3 ∨ i = 4 := by omega
  have h2 : j = 0 ∨ j = 1 ∨ j = 2 ∨ j = 3 ∨ j = 4 := by omega
  rcases h1 with rfl | rfl | rfl | rfl | rfl <;> rcases h2 with rfl | rfl | rfl | rfl | rfl <;> rfl

theorem RTr.box_set {B : Nat} {W : World} {tb : Nat} {V : RV} {lv : Int} (h : Blk W tb 27 [.int .i64 lv, V.l, V.r, V.p, V.h, V.s]) {i : Nat} (hi : i < 5) (v : Value) :
    Blk (W.setCell ⟨tb, i + 1, none⟩ v) tb 27 [.int .i64 lv, (V.put i v).l, (V.put i v).r, (V.put i v).p, (V.put i v).h, (V.put i v).s] := by
  have := h.set (i + 1) v
  have h1 : i = 0 ∨ i = 1 ∨ i = 2 ∨ i = 3 ∨ i = 4 := by omega
  rcases h1 with rfl | rfl | rfl | rfl | rfl <;> exact this

/-- An append to the i-th row, the new row stored. -/
theorem RTr.app {B : Nat} {W W6 : World} {tb : Nat} {V : RV} {t : Tr} (h : RTr B W tb V t) {i : Nat} (hi : i < 5) {o : Obj} {x : Int} {v6 : Value} (hB : B ≤ W.heap.size)
    (ho : W6.ownsRow 0 (rvT i) 1 v6 ((t.at i).length + 1) (intV (t.at i) ++ [.int .i64 x])) (hg : (W.alloc o).grownBy W6 (V.at i).ownBlock)
    (hn : ∀ k, v6.ownBlock = some k → (V.at i).ownBlock = some k ∨ (W.alloc o).heap.size ≤ k) :
    RTr B (W6.setCell ⟨tb, i + 1, none⟩ v6) tb (V.put i v6) (t.put i (t.at i ++ [x])) ∧ Below B W (W6.setCell ⟨tb, i + 1, none⟩ v6) ∧ (Blk W6 tb 27 [.int .i64 t.lv, V.l, V.r, V.p, V.h, V.s]) := by
  have m : Mod (fun k => (V.at i).ownBlock = some k) W W6 := ((Mod.refl (fun k => (V.at i).ownBlock = some k) W).alloc o).grown hg (fun k hk _ => hk)
  have hz : ∀ k, v6.ownBlock = some k → (V.at i).ownBlock = some k ∨ W.heap.size ≤ k := fun k hk => by
    rcases hn k hk with e | e
    · exact .inl e
    · simp at e; exact .inr (by omega)
  have hbx : Blk W6 tb 27 [.int .i64 t.lv, V.l, V.r, V.p, V.h, V.s] := h.box.mod m (fun e => (h.nb i hi tb e).1 rfl)
  have htl := h.box.lt
  have m2 : Mod (fun k => k = tb) W6 (W6.setCell ⟨tb, i + 1, none⟩ v6) := (Mod.refl _ W6).setAt rfl
  have hv6n : ∀ k, v6.ownBlock = some k → k ≠ tb ∧ B ≤ k := fun k hk => by
    rcases hz k hk with e | e
    · exact h.nb i hi k e
    · exact ⟨by omega, by omega⟩
  refine ⟨⟨RTr.box_set (B := B) hbx hi v6, fun j hj => ?_, fun j k hj hk hjk y hy e => ?_, fun j hj y hy => ?_, h.tbn⟩, ?_, hbx⟩
  · rw [RV.put_at V hi hj, Tr.put_at t hi hj]
    by_cases e : j = i
    · subst e
      rw [if_pos rfl, if_pos rfl, List.length_append, intV_snoc]
      exact owns_mod ho m2 (fun y hy e => (hv6n y hy).1 e)
    · rw [if_neg e, if_neg e]
      exact owns_mod (owns_mod (h.own j hj) m (fun y hy e' => h.ne i j hi hj (fun q => e q.symm) y e' hy)) m2 (fun y hy e' => (h.nb j hj y hy).1 e')
  · rw [RV.put_at V hi hj] at hy
    rw [RV.put_at V hi hk] at e
    by_cases e1 : j = i
    · subst e1
      rw [if_pos rfl] at hy
      rw [if_neg (fun q => hjk q.symm)] at e
      rcases hz y hy with q | q
      · exact h.ne j k hj hk hjk y q e
      · have := own_lt (h.own k hk) e; omega
    · rw [if_neg e1] at hy
      by_cases e2 : k = i
      · subst e2
        rw [if_pos rfl] at e
        rcases hz y e with q | q
        · exact h.ne j k hj hk hjk y hy q
        · have := own_lt (h.own j hj) hy; omega
      · rw [if_neg e2] at e
        exact h.ne j k hj hk hjk y hy e
  · rw [RV.put_at V hi hj] at hy
    by_cases e1 : j = i
    · rw [if_pos e1] at hy; exact hv6n y hy
    · rw [if_neg e1] at hy; exact h.nb j hj y hy
  · exact (m.below hB (fun y hy => (h.nb i hi y hy).2)).trans (m2.below (Nat.le_trans hB m.size) (fun y hy => by rw [hy]; exact h.tbn))

/-- A number of the i-th row changed. -/
theorem RTr.set {B : Nat} {W : World} {tb : Nat} {V : RV} {t : Tr} (h : RTr B W tb V t) {i : Nat} (hi : i < 5) {g n cap : Nat} (hv : V.at i = .slice (some ⟨g, 0, none⟩) n cap) {j : Nat} (hj : j < (t.at i).length) (x : Int) :
    RTr B (W.setCell ⟨g, j, none⟩ (.int .i64 x)) tb V (t.put i ((t.at i).set j x)) ∧ Below B W (W.setCell ⟨g, j, none⟩ (.int .i64 x)) := by
  have hown := h.own i hi
  have hb : (V.at i).ownBlock = some g := by rw [hv]; rfl
  have m : Mod (fun k => k = g) W (W.setCell ⟨g, j, none⟩ (.int .i64 x)) := (Mod.refl _ W).setAt rfl
  have hBl : B ≤ W.heap.size := Nat.le_trans (h.nb i hi g hb).2 (Nat.le_of_lt (own_lt hown hb))
  have hlv : (t.put i ((t.at i).set j x)).lv = t.lv := rfl
  refine ⟨⟨?_, fun q hq => ?_, h.ne, h.nb, h.tbn⟩, m.below hBl (fun y hy => by rw [hy]; exact (h.nb i hi g hb).2)⟩
  · exact h.box.mod m (fun e => (h.nb i hi g hb).1 e.symm)
  · rw [Tr.put_at t hi hq]
    by_cases e : q = i
    · subst e
      rw [if_pos rfl, List.length_set]
      have hl : (t.at q).length = n := by
        rcases hown.2 with ⟨h', _⟩ | ⟨g', cap', cur, h', _⟩
        · rw [hv] at h'; cases h'
        · rw [hv] at h'; injection h' with _ h' _; exact h'.symm
      have e1 : intV ((t.at q).set j x) = (intV (t.at q)).set j (.int .i64 x) := by unfold intV; rw [List.map_set]
      rw [e1]
      rw [hv, hl] at hown ⊢
      exact owns_set hown j (by omega) _
    · rw [if_neg e]
      exact owns_mod (h.own q hq) m (fun y hy e' => h.ne i q hi hq (fun q' => e q'.symm) g hb (by rw [hy, e']))

/-- The tree as it is read. -/
theorem RTr.tree {B : Nat} {W : World} {tb : Nat} {V : RV} {t : Tr} (h : RTr B W tb V t) (hlv : -9223372036854775808 ≤ t.lv ∧ t.lv ≤ 9223372036854775807) (hl : ∀ i, i < 5 → (t.at i).length ≤ 9223372036854775807) :
    ∃ A : TA, V = ⟨.slice A.l.o t.left.length A.l.c, .slice A.r.o t.right.length A.r.c, .slice A.p.o t.par.length A.p.c, .slice A.h.o t.hgt.length A.h.c, .slice A.s.o t.siz.length A.s.c⟩ ∧ TreeAt W A t ∧ (∀ x, A.has t x → B ≤ x) := by
  obtain ⟨a0, c0, b0, e0, r0, q0⟩ := owns_row (h.own 0 (by omega))
  obtain ⟨a1, c1, b1, e1, r1, q1⟩ := owns_row (h.own 1 (by omega))
  obtain ⟨a2, c2, b2, e2, r2, q2⟩ := owns_row (h.own 2 (by omega))
  obtain ⟨a3, c3, b3, e3, r3, q3⟩ := owns_row (h.own 3 (by omega))
  obtain ⟨a4, c4, b4, e4, r4, q4⟩ := owns_row (h.own 4 (by omega))
  have g : ∀ (i : Nat) (z : List Int) (a : Option Addr) (c b : Nat), i < 5 → V.at i = .slice a z.length c → InRow .i64 W a z.length b 0 z → 0 < z.length → B ≤ b := fun i z a c b hi he hr h0 => by
    have := hr.adr h0
    subst this
    exact (h.nb i hi b (by rw [he]; rfl)).2
  refine ⟨⟨⟨a0, b0, 0, c0⟩, ⟨a1, b1, 0, c1⟩, ⟨a2, b2, 0, c2⟩, ⟨a3, b3, 0, c3⟩, ⟨a4, b4, 0, c4⟩⟩, ?_, ⟨r0, r1, r2, r3, r4, ⟨hl 0 (by omega), hl 1 (by omega), hl 2 (by omega), hl 3 (by omega), hl 4 (by omega)⟩, hlv⟩, fun x hx => ?_⟩
  · obtain ⟨vl, vr, vp, vh, vs⟩ := V
    have e0' : vl = _ := e0
    have e1' : vr = _ := e1
    have e2' : vp = _ := e2
    have e3' : vh = _ := e3
    have e4' : vs = _ := e4
    rw [e0', e1', e2', e3', e4']
    rfl
  · rcases hx with ⟨h0, rfl⟩ | ⟨h0, rfl⟩ | ⟨h0, rfl⟩ | ⟨h0, rfl⟩ | ⟨h0, rfl⟩
    · exact g 0 t.left _ _ _ (by omega) e0 r0 h0
    · exact g 1 t.right _ _ _ (by omega) e1 r1 h0
    · exact g 2 t.par _ _ _ (by omega) e2 r2 h0
    · exact g 3 t.hgt _ _ _ (by omega) e3 r3 h0
    · exact g 4 t.siz _ _ _ (by omega) e4 r4 h0

end Go.Proofs.YthacjealoomioaaGreatDoor

/- Reference of layer 18: node. -/
namespace Go.Proofs.YthacjealoomioaaGreatDoor
set_option linter.unusedVariables false
set_option linter.unusedSimpArgs false
open Go.RowKit

def Tr.add (t : Tr) (l r h s : Int) : Tr := ⟨t.lv, t.left ++ [l], t.right ++ [r], t.par ++ [-1], t.hgt ++ [h], t.siz ++ [s]⟩

theorem news_set (w : World) (p : Addr) (u : Value) (T : TypeId) (cs : List Value) : ∀ j x, cs[j]? = some x → ((w.setCell p u).alloc (.cells cs.toArray T)).cell? ((⟨w.heap.size, 0, none⟩ : Addr).add j) = some x := by
  have := news_new (w.setCell p u) T cs
  rw [show (w.setCell p u).heap.size = w.heap.size by simp [World.setCell]] at this
  exact this

structure NdPost (B : Nat) (w : World) (tb : Nat) (t : Tr) (e : Ending) (w' : World) : Prop where
  val : e = .returned (.tuple #[])
  ex : ∃ V, RTr B w' tb V t
  bel : Below B w w'

set_option maxHeartbeats 4000000 in
set_option maxRecDepth 100000 in
theorem rnode_ok (B : Nat) (w : World) (tb : Nat) (V : RV) (t : Tr) (hr : RTr B w tb V t) (hl : ∀ i, i < 5 → (t.at i).length ≤ 100000) (hB : B ≤ w.heap.size) (l r h s : Int) :
    Calls Tryz.prog 37 #[.pointer (some ⟨tb, 0, none⟩), .int .i64 l, .int .i64 r, .int .i64 h, .int .i64 s] w (NdPost B w tb (t.add l r h s)) := by
  have HR0 := Lib.hid hr
  have HL := Lib.hid hl
  have HB0 := Lib.hid (Below.refl B w)
  have HZ0 := Lib.hid hB
  have c1 := hr.box.cell (i := 1) rfl
  clear hr hl hB
  go_enter Tryz.func37, Tryz.ntmps37
  have HOW0 : Hid ((w.alloc (.cells #[.int .i64 l] 3)).ownsRow 0 3 1 V.l t.left.length (intV t.left)) := (HR0.out.own 0 (by omega)).alloc _
  have HNW0 := Lib.hid (news_new w 3 [.int .i64 l])
  have hln : t.left.length ≤ 100000 := HL.out 0 (by omega)
  go_wp2_with (at_builtin; apply keepIt)
  apply Lib.hid
  clear c1
  refine wpList_appendB 3 (.int .i64 0) 1 8 Tryz.underlying24 Tryz.infoInt rfl (by decide) _ t.left.length _ rfl HOW0.out ⟨w.heap.size, 0, none⟩ 1 1 [.int .i64 l] rfl rfl HNW0.out (by simp [Value.oneCell']) (by unfold maxLen; omega) (by omega) ?_
  intro v1 w1 ho1 hg1 hn1
  obtain ⟨a1, k1, rfl⟩ := owns_slice ho1
  obtain ⟨hr1, hb1, hx1⟩ := HR0.out.app (i := 0) (by omega) HZ0.out ho1 hg1 hn1
  have HR1 := Lib.hid hr1
  have HB1 := Lib.hid (HB0.out.trans hb1)
  have HZ1 := Lib.hid (Nat.le_trans HZ0.out hb1.size)
  have c1 := hx1.cell (i := 1) rfl
  have f1 := hx1.free 1
  have c2 := hx1.cell (i := 2) rfl
  clear ho1 hg1 hn1 hr1 hb1 hx1 HOW0 HNW0 hln HR0 HB0 HZ0
  have HOW1 : Hid (((w1.setCell ⟨tb, 1, none⟩ (.slice a1 (t.left.length + 1) k1)).alloc (.cells #[.int .i64 r] 3)).ownsRow 0 3 1 V.r t.right.length (intV t.right)) := (HR1.out.own 1 (by omega)).alloc _
  have HNW1 := Lib.hid (news_set w1 ⟨tb, 1, none⟩ (.slice a1 (t.left.length + 1) k1) 3 [.int .i64 r])
  have hln : t.right.length ≤ 100000 := HL.out 1 (by omega)
  go_wp2_with (at_builtin; apply keepIt)
  apply Lib.hid
  clear c2
  refine wpList_appendB 3 (.int .i64 0) 1 8 Tryz.underlying24 Tryz.infoInt rfl (by decide) _ t.right.length _ rfl HOW1.out ⟨w1.heap.size, 0, none⟩ 1 1 [.int .i64 r] rfl rfl HNW1.out (by simp [Value.oneCell']) (by unfold maxLen; omega) (by omega) ?_
  intro v2 w2 ho2 hg2 hn2
  obtain ⟨a2, k2, rfl⟩ := owns_slice ho2
  obtain ⟨hr2, hb2, hx2⟩ := HR1.out.app (i := 1) (by omega) HZ1.out ho2 hg2 hn2
  have HR2 := Lib.hid hr2
  have HB2 := Lib.hid (HB1.out.trans hb2)
  have HZ2 := Lib.hid (Nat.le_trans HZ1.out hb2.size)
  have c2 := hx2.cell (i := 2) rfl
  have f2 := hx2.free 2
  have c3 := hx2.cell (i := 3) rfl
  clear ho2 hg2 hn2 hr2 hb2 hx2 HOW1 HNW1 hln HR1 HB1 HZ1
  have HOW2 : Hid (((w2.setCell ⟨tb, 2, none⟩ (.slice a2 (t.right.length + 1) k2)).alloc (.cells #[.int .i64 (-1)] 3)).ownsRow 0 3 1 V.p t.par.length (intV t.par)) := (HR2.out.own 2 (by omega)).alloc _
  have HNW2 := Lib.hid (news_set w2 ⟨tb, 2, none⟩ (.slice a2 (t.right.length + 1) k2) 3 [.int .i64 (-1)])
  have hln : t.par.length ≤ 100000 := HL.out 2 (by omega)
  go_wp2_with (at_builtin; apply keepIt)
  apply Lib.hid
  clear c3
  refine wpList_appendB 3 (.int .i64 0) 1 8 Tryz.underlying24 Tryz.infoInt rfl (by decide) _ t.par.length _ rfl HOW2.out ⟨w2.heap.size, 0, none⟩ 1 1 [.int .i64 (-1)] rfl rfl HNW2.out (by simp [Value.oneCell']) (by unfold maxLen; omega) (by omega) ?_
  intro v3 w3 ho3 hg3 hn3
  obtain ⟨a3, k3, rfl⟩ := owns_slice ho3
  obtain ⟨hr3, hb3, hx3⟩ := HR2.out.app (i := 2) (by omega) HZ2.out ho3 hg3 hn3
  have HR3 := Lib.hid hr3
  have HB3 := Lib.hid (HB2.out.trans hb3)
  have HZ3 := Lib.hid (Nat.le_trans HZ2.out hb3.size)
  have c3 := hx3.cell (i := 3) rfl
  have f3 := hx3.free 3
  have c4 := hx3.cell (i := 4) rfl
  clear ho3 hg3 hn3 hr3 hb3 hx3 HOW2 HNW2 hln HR2 HB2 HZ2
  have HOW3 : Hid (((w3.setCell ⟨tb, 3, none⟩ (.slice a3 (t.par.length + 1) k3)).alloc (.cells #[.int .i64 h] 2)).ownsRow 0 2 1 V.h t.hgt.length (intV t.hgt)) := (HR3.out.own 3 (by omega)).alloc _
  have HNW3 := Lib.hid (news_set w3 ⟨tb, 3, none⟩ (.slice a3 (t.par.length + 1) k3) 2 [.int .i64 h])
  have hln : t.hgt.length ≤ 100000 := HL.out 3 (by omega)
  go_wp2_with (at_builtin; apply keepIt)
  apply Lib.hid
  clear c4
  refine wpList_appendB 2 (.int .i64 0) 1 8 Tryz.underlying25 Tryz.infoI64 rfl (by decide) _ t.hgt.length _ rfl HOW3.out ⟨w3.heap.size, 0, none⟩ 1 1 [.int .i64 h] rfl rfl HNW3.out (by simp [Value.oneCell']) (by unfold maxLen; omega) (by omega) ?_
  intro v4 w4 ho4 hg4 hn4
  obtain ⟨a4, k4, rfl⟩ := owns_slice ho4
  obtain ⟨hr4, hb4, hx4⟩ := HR3.out.app (i := 3) (by omega) HZ3.out ho4 hg4 hn4
  have HR4 := Lib.hid hr4
  have HB4 := Lib.hid (HB3.out.trans hb4)
  have HZ4 := Lib.hid (Nat.le_trans HZ3.out hb4.size)
  have c4 := hx4.cell (i := 4) rfl
  have f4 := hx4.free 4
  have c5 := hx4.cell (i := 5) rfl
  clear ho4 hg4 hn4 hr4 hb4 hx4 HOW3 HNW3 hln HR3 HB3 HZ3
  have HOW4 : Hid (((w4.setCell ⟨tb, 4, none⟩ (.slice a4 (t.hgt.length + 1) k4)).alloc (.cells #[.int .i64 s] 3)).ownsRow 0 3 1 V.s t.siz.length (intV t.siz)) := (HR4.out.own 4 (by omega)).alloc _
  have HNW4 := Lib.hid (news_set w4 ⟨tb, 4, none⟩ (.slice a4 (t.hgt.length + 1) k4) 3 [.int .i64 s])
  have hln : t.siz.length ≤ 100000 := HL.out 4 (by omega)
  go_wp2_with (at_builtin; apply keepIt)
  apply Lib.hid
  clear c5
  refine wpList_appendB 3 (.int .i64 0) 1 8 Tryz.underlying24 Tryz.infoInt rfl (by decide) _ t.siz.length _ rfl HOW4.out ⟨w4.heap.size, 0, none⟩ 1 1 [.int .i64 s] rfl rfl HNW4.out (by simp [Value.oneCell']) (by unfold maxLen; omega) (by omega) ?_
  intro v5 w5 ho5 hg5 hn5
  obtain ⟨a5, k5, rfl⟩ := owns_slice ho5
  obtain ⟨hr5, hb5, hx5⟩ := HR4.out.app (i := 4) (by omega) HZ4.out ho5 hg5 hn5
  have HR5 := Lib.hid hr5
  have HB5 := Lib.hid (HB4.out.trans hb5)
  have HZ5 := Lib.hid (Nat.le_trans HZ4.out hb5.size)
  have c5 := hx5.cell (i := 5) rfl
  have f5 := hx5.free 5
  clear ho5 hg5 hn5 hr5 hb5 hx5 HOW4 HNW4 hln HR4 HB4 HZ4
  go_wp2_with fail
  go_end0
  exact ⟨rfl, ⟨_, HR5.out⟩, HB5.out⟩

end Go.Proofs.YthacjealoomioaaGreatDoor

/- One round of the reference's Build, plainly. -/
namespace Go.Proofs.YthacjealoomioaaGreatDoor
set_option linter.unusedVariables false
set_option linter.unusedSimpArgs false
open Go.RowKit

/-- The tree T before a round, T' behind it. -/
structure GrowSt (n c : Nat) (T T' : Tr) (u v r1 r2 ku kv z1 z2 : Nat) (we : Int) : Prop where
  lv : T.lv = n
  len : ∀ i, i < 5 → (T.at i).length = c
  up1 : Up T c u r1
  up2 : Up T c v r2
  low1 : Low T n c r1 ku
  low2 : Low T n c r2 kv
  b1 : r1 < c
  b2 : r2 < c
  s1 : gi T.siz r1 = (z1 : Int)
  s2 : gi T.siz r2 = (z2 : Int)
  y1 : z1 ≤ 4096
  y2 : z2 ≤ 4096
  lt : kv < ku → T' = ⟨T.lv, T.left ++ [(r2 : Int)], T.right ++ [(r1 : Int)], ((T.par ++ [-1]).set r2 (c : Int)).set r1 (c : Int), T.hgt ++ [we], T.siz ++ [(z2 : Int) + (z1 : Int)]⟩
  ge : ¬ kv < ku → T' = ⟨T.lv, T.left ++ [(r1 : Int)], T.right ++ [(r2 : Int)], ((T.par ++ [-1]).set r1 (c : Int)).set r2 (c : Int), T.hgt ++ [we], T.siz ++ [(z1 : Int) + (z2 : Int)]⟩

theorem grow_st {n : Nat} {l : List Ed} (hg : GOk n l) {j : Nat} (hj : j < FN n l) :
    ∃ r1 r2 ku kv z1 z2 : Nat, GrowSt n (n + j) (trT (bdS n l j).t (n + j)) (trT (bdS n l (j + 1)).t (n + (j + 1))) (uN l (fe n l j)) (vN l (fe n l j)) r1 r2 ku kv z1 z2 (wI l (fe n l j)) := by
  obtain ⟨hb, hb2, _⟩ := bd_inv3 hg j (Nat.le_of_lt hj)
  have hx : fe n l j < l.length := for_lt hj
  obtain ⟨hu, hv, _⟩ := hg.uv hx
  obtain ⟨p1, p2, p3⟩ := grow_root hb hb2 hu
  obtain ⟨q1, q2, q3⟩ := grow_root hb hb2 hv
  have hn := hb.hn
  have hkl := hb.kok.len
  have cnt : ∀ a, (bdS n l j).k.count a ≤ 4096 := fun a => Nat.le_trans List.count_le_length (by omega)
  have sz : ∀ y, y < n → gi (trT (bdS n l j).t (n + j)).siz ((bdS n l j).top.getD ((bdS n l j).k.getD y 0) 0) = (((bdS n l j).k.count ((bdS n l j).k.getD y 0) : Nat) : Int) := fun y hy => by
    obtain ⟨_, h2, _⟩ := grow_root hb hb2 hy
    show gi ((bdS n l j).t.siz.take (n + j)) _ = _
    rw [gi_take h2]
    exact hb.sz _ (by have := hb.kok.le y hy; omega) (hb.kok.idem y hy)
  have hlen : ∀ i, i < 5 → ((trT (bdS n l j).t (n + j)).at i).length = n + j := fun i hi => by
    have h1 : i = 0 ∨ i = 1 ∨ i = 2 ∨ i = 3 ∨ i = 4 := by omega
    have e1 := hb.ll
    have e2 := hb.rl
    have e3 := hb.pl
    have e4 := hb.hl
    have e5 := hb.sl
    rcases h1 with rfl | rfl | rfl | rfl | rfl
    · show ((bdS n l j).t.left.take (n + j)).length = _; rw [List.length_take]; omega
    · show ((bdS n l j).t.right.take (n + j)).length = _; rw [List.length_take]; omega
    · show ((bdS n l j).t.par.take (n + j)).length = _; rw [List.length_take]; omega
    · show ((bdS n l j).t.hgt.take (n + j)).length = _; rw [List.length_take]; omega
    · show ((bdS n l j).t.siz.take (n + j)).length = _; rw [List.length_take]; omega
  have hsd := grow_sides (l := l) (n := n) (s := bdS n l j) (i := fe n l j)
  refine ⟨_, _, _, _, _, _, hb.lv, hlen, p1, q1, p3, q3, p2, q2, sz _ hu, sz _ hv, cnt _, cnt _, fun h => ?_, fun h => ?_⟩
  · obtain ⟨e1, e2⟩ := hsd.1 h
    rw [bdS_succ]
    exact grow_step hb (by omega) l (fe n l j) e1 e2 q2 p2 rfl (by rw [sz _ hu, sz _ hv])
  · obtain ⟨e1, e2⟩ := hsd.2 h
    rw [bdS_succ]
    exact grow_step hb (by omega) l (fe n l j) e1 e2 p2 q2 rfl (by rw [sz _ hu, sz _ hv])

end Go.Proofs.YthacjealoomioaaGreatDoor

/- Reference of layer 18: Build. -/
namespace Go.Proofs.YthacjealoomioaaGreatDoor
set_option linter.unusedVariables false
set_option linter.unusedSimpArgs false
open Go.RowKit

abbrev zeroT : List Value := [.int .i64 0, .slice none 0 0, .slice none 0 0, .slice none 0 0, .slice none 0 0, .slice none 0 0]

def nilV : RV := ⟨.slice none 0 0, .slice none 0 0, .slice none 0 0, .slice none 0 0, .slice none 0 0⟩

theorem RTr.start {B : Nat} {W : World} {tb : Nat} {n : Nat} (h : Blk W tb 27 [.int .i64 (n : Int), .slice none 0 0, .slice none 0 0, .slice none 0 0, .slice none 0 0, .slice none 0 0]) (hB : B ≤ tb) : RTr B W tb nilV (lvT n 0) := by
  have e : ∀ i, i < 5 → nilV.at i = .slice none 0 0 := fun i hi => by
    have h1 : i = 0 ∨ i = 1 ∨ i = 2 ∨ i = 3 ∨ i = 4 := by omega
    rcases h1 with rfl | rfl | rfl | rfl | rfl <;> rfl
  have e2 : ∀ i, i < 5 → (lvT n 0).at i = [] := fun i hi => by
    have h1 : i = 0 ∨ i = 1 ∨ i = 2 ∨ i = 3 ∨ i = 4 := by omega
    rcases h1 with rfl | rfl | rfl | rfl | rfl <;> rfl
  refine ⟨h, fun i hi => ?_, fun i j hi hj _ x hx => ?_, fun i hi x hx => ?_, hB⟩
  · rw [e i hi, e2 i hi]; exact World.ownsRow_nil _ _ _ _
  · rw [e i hi] at hx; cases hx
  · rw [e i hi] at hx; cases hx

/-- Which root becomes the left child. -/
structure Side (T T' : Tr) (c a b za zb : Nat) (we : Int) : Prop where
  h1 : a < c
  h2 : b < c
  s1 : gi T.siz a = (za : Int)
  s2 : gi T.siz b = (zb : Int)
  y1 : za ≤ 4096
  y2 : zb ≤ 4096
  eq : T' = ⟨T.lv, T.left ++ [(a : Int)], T.right ++ [(b : Int)], ((T.par ++ [-1]).set a (c : Int)).set b (c : Int), T.hgt ++ [we], T.siz ++ [(za : Int) + (zb : Int)]⟩

def Sided (T T' : Tr) (c : Nat) (we : Int) (v1 v2 : Value) : Prop := ∃ a b za zb : Nat, v1 = .int .i64 a ∧ v2 = .int .i64 b ∧ Side T T' c a b za zb we

theorem own_int {w : World} {T : TypeId} {g n cap : Nat} {l : List Int} (h : w.ownsRow 0 T 1 (.slice (some ⟨g, 0, none⟩) n cap) n (intV l)) (hl : l.length = n) {i : Nat} (hi : i < n) :
    w.cell? ⟨g, i, none⟩ = some (.int .i64 (gi l i)) ∧ w.frozen? ⟨g, i, none⟩ = false := by
  obtain ⟨g', cap', e, _, _, _, hc, hf⟩ := owns_form h (by omega)
  injection e with e
  injection e with e
  injection e with e
  subst e
  refine ⟨?_, hf i⟩
  rw [hc i (by omega)]
  unfold intV gi
  rw [List.getElem?_map, List.getD_eq_getElem?_getD, List.getElem?_eq_getElem (by omega)]; rfl

theorem RTr.par_form {B : Nat} {W : World} {tb : Nat} {V : RV} {t : Tr} (h : RTr B W tb V t) (hl : 0 < t.par.length) : ∃ g cap, V.p = .slice (some ⟨g, 0, none⟩) t.par.length cap ∧ ∀ j, j < t.par.length → W.cell? ⟨g, j, none⟩ = some (.int .i64 (gi t.par j)) ∧ W.frozen? ⟨g, j, none⟩ = false := by
  have ho := h.own 2 (by omega)
  obtain ⟨g, cap, e, _⟩ := owns_form ho hl
  have e' : V.p = .slice (some ⟨g, 0, none⟩) t.par.length cap := e
  refine ⟨g, cap, e', fun j hj => ?_⟩
  have ho' : W.ownsRow 0 (rvT 2) 1 V.p t.par.length (intV t.par) := ho
  rw [e'] at ho'
  exact own_int ho' rfl hj

theorem lv_at_len (n i j : Nat) (hj : j < 5) : ((lvT n i).at j).length = i := by
  have h1 : j = 0 ∨ j = 1 ∨ j = 2 ∨ j = 3 ∨ j = 4 := by omega
  rcases h1 with rfl | rfl | rfl | rfl | rfl <;> exact List.length_replicate

end Go.Proofs.YthacjealoomioaaGreatDoor

/- The reference's Build: the room of the heights. (printed by drf.py) -/
namespace Go.Proofs.YthacjealoomioaaGreatDoor
set_option linter.unusedVariables false
set_option linter.unusedSimpArgs false
open Go.RowKit

theorem own_cap {w : World} {T size n : Nat} {o : Option Addr} {c : Nat} {xs : List Value} (h : w.ownsRow 0 T size (.slice o n c) n xs) : n ≤ c := by
  rcases h.2 with ⟨h', h0⟩ | ⟨g, cap, cur, h', _, _, h1, _⟩
  · injection h' with _ h2 h3
    omega
  · injection h' with _ _ h3
    omega
structure RbPostC (w : World) (n : Int) (l : List Ed) (e : Ending) (w' : World) : Prop where
  bad : newErr n l ≠ 0 → e = .returned (.tuple #[.agg #[.int .i64 0, .slice none 0 0, .slice none 0 0, .slice none 0 0, .slice none 0 0, .slice none 0 0], .int .i64 (newErr n l)])
  ok : newErr n l = 0 → ∃ A : TA, e = .returned (.tuple #[A.agg (bdL n.toNat l), .int .i64 0]) ∧ TreeAt w' A (bdL n.toNat l) ∧ (∀ x, A.has (bdL n.toNat l) x → w.heap.size ≤ x) ∧ (bdL n.toNat l).hgt.length ≤ A.h.c
  bel : Below w.heap.size w w'

set_option maxHeartbeats 4000000 in
set_option maxRecDepth 100000 in
theorem rbuild2c_ok (w : World) (n : Int) (ao : Option Addr) (m cap b off : Nat) (l : List Ed) (he : ERow w ao m b off l) (hm : m ≤ 9223372036854775807) (hnil : ao = none → cap = 0) (hn64 : -9223372036854775808 ≤ n ∧ n ≤ 9223372036854775807) :
    Calls Tryz.prog 14 #[.int .i64 n, .slice ao m cap] w (RbPostC w n l) := by
  have HE := Lib.hid he
  have HNIL := Lib.hid hnil
  have HR1 := Lib.hid (Blk.new w 27 zeroT)
  have HB1 := Lib.hid (bel_alloc w (.cells #[.int .i64 0, .slice none 0 0, .slice none 0 0, .slice none 0 0, .slice none 0 0, .slice none 0 0] 27))
  clear he hnil
  go_enter Tryz.func14, Tryz.ntmps14
  go_wp2_with fail
  with_reducible refine (rnew_ok _ n ao m cap b off l (HE.out.below HB1.out) hm HNIL.out hn64).mono ?_
  rintro e w2 ⟨⟨p, rfl, _, _⟩, hb⟩
  have HB2 := Lib.hid (bel_then HB1.out hb)
  have HR2 := Lib.hid (HR1.out.below hb HR1.out.lt)
  clear hb HB1 HR1
  by_cases hz : newErr n l = 0
  · obtain ⟨k, rfl, hg⟩ := GOk.of_err hz
    have HG := Lib.hid hg
    have HZ := Lib.hid hz
    have hk4 := hg.hn
    rw [hz]
    clear hz hg
    go_wp2_with fail
    with_reducible refine (rforest_ok w2 k ao m cap b off l (HE.out.below HB2.out) hm HNIL.out hn64).mono ?_
    rintro e w3 ⟨_, hgood, hb⟩
    obtain ⟨v8, rfl, ho, hon⟩ := hgood HZ.out
    rw [Int.toNat_natCast] at ho
    obtain ⟨a8, c8, b8, rfl, _, _⟩ := own_rowN ho rfl
    have HO3 := Lib.hid ho
    have HON := Lib.hid hon
    have HB3 := Lib.hid (bel_then HB2.out hb)
    have HR3 := Lib.hid (HR2.out.below hb HR2.out.lt)
    have HMEM : Hid (∀ j, j < (forL k l).length → (forL k l).getD j 0 < l.length) := fun j hj => for_lt hj
    have HFL := Lib.hid (forL_len HG.out)
    have HWS : Hid (w2.heap.size ≤ w3.heap.size) := hb.size
    clear ho hon hb HB2 HR2
    have HBX := Lib.hid (Blk.new w3 27 [.int .i64 (k : Int), .slice none 0 0, .slice none 0 0, .slice none 0 0, .slice none 0 0, .slice none 0 0])
    have HWA := Lib.hid (bel_alloc w3 (.cells #[.int .i64 (k : Int), .slice none 0 0, .slice none 0 0, .slice none 0 0, .slice none 0 0, .slice none 0 0] 27))
    obtain ⟨F, hF⟩ : ∃ F, (forL k l).length = F := ⟨_, rfl⟩
    rw [hF] at HO3 HMEM HFL
    rw [hF]
    have HFF := Lib.hid hF
    clear hF
    go_wp2_with fail
    generalize hBq : w3.heap.size = B at *
    have HBQ := Lib.hid hBq
    clear hBq
    have HT0 : Hid (RTr B (w3.alloc (.cells #[.int .i64 (k : Int), .slice none 0 0, .slice none 0 0, .slice none 0 0, .slice none 0 0, .slice none 0 0] 27)) B nilV (lvT k 0)) := RTr.start HBX.out (Nat.le_refl _)
    go_loopw [11] (fun s wr => ∃ (i : Nat) (V : RV), i ≤ k ∧ s = .int .i64 i ∧ RTr B wr B V (lvT k i) ∧ Below B w3 wr) (fun s _ => k - (intOf s).toNat)
    case atStart => exact ⟨0, _, Nat.zero_le _, rfl, HT0.out, HWA.out⟩
    case round =>
      obtain ⟨i, V, hi, rfl, htr, hb⟩ := hrel
      have HTR := Lib.hid htr
      have HWR := Lib.hid hb
      clear htr hb HT0 HWA HBX
      by_cases hik : i < k
      · go_wp2_with fail
        with_reducible refine (rnode_ok B wr B V (lvT k i) HTR.out (fun j hj => by rw [lv_at_len k i j hj]; omega) (by have := HWR.out.size; have := HBQ.out; omega) (-1) (-1) 0 1).mono ?_
        rintro e w4 ⟨rfl, ⟨V4, htr4⟩, hb4⟩
        rw [show (lvT k i).add (-1) (-1) 0 1 = lvT k (i + 1) from (lvT_succ k i).symm] at htr4
        have HTR4 := Lib.hid htr4
        have HB4 := Lib.hid (HWR.out.trans hb4)
        clear htr4 hb4
        go_wp2_with fail
        go_roundw
        case rel => exact ⟨i + 1, V4, by omega, by go_num, HTR4.out, HB4.out⟩
        case measure => simp [intOf]; omega
      · obtain rfl : i = k := by omega
        have HTS : Hid (RTr B wr B V (trT (bdS i l 0).t (i + 0))) := by
          show RTr _ _ _ _ _
          have : trT (bdS i l 0).t (i + 0) = lvT i i := grow_zero i _
          rw [this]; exact HTR.out
        go_wp2_with fail
        go_loopw [12] (fun s wx => ∃ (j : Nat) (V : RV), j ≤ F ∧ s = .int .i64 j ∧ RTr B wx B V (trT (bdS i l j).t (i + j)) ∧ Below B w3 wx) (fun s _ => F - (intOf s).toNat)
        case atStart => exact ⟨0, _, Nat.zero_le _, rfl, HTS.out, HWR.out⟩
        case round =>
          obtain ⟨j, V, hj, rfl, htr, hb⟩ := hrel
          clear HTR HWR HTS
          have HTR := Lib.hid htr
          have HWR := Lib.hid hb
          clear htr hb
          by_cases hjF : j < F
          · obtain ⟨r1, r2, ku, kv, z1, z2, hst⟩ := grow_st HG.out (j := j) (show j < FN i l by unfold FN; rw [HFF.out]; exact hjF)
            have HST := Lib.hid hst
            have hFb : F ≤ 4096 := by have := HFL.out; omega
            have hxl : fe i l j < l.length := HMEM.out j hjF
            obtain ⟨hu, hv, _, eU, eV⟩ := HG.out.uv hxl
            have hEM := HE.out.size
            obtain ⟨d0, d1, d2⟩ := (HE.out.below HB3.out).cell (fe i l j) (by omega)
            rw [eU] at d0
            rw [eV] at d1
            obtain ⟨a', c', b', e', hin8, _⟩ := own_rowN HO3.out HFF.out
            injection e' with e1 _ e2
            subst e1 e2
            have c8 := hin8.cell j hjF
            rw [nI_at (by rw [HFF.out]; exact hjF), Nat.zero_add] at c8
            have c8' : w3.cell? ⟨b', j, none⟩ = some (.int .i64 (fe i l j)) := c8
            have HC8 : Hid (∀ W, Below B w3 W → W.cell? ⟨b', j, none⟩ = some (.int .i64 (fe i l j))) := fun W h => (h.cell (p := ⟨b', j, none⟩) (by have := World.block_lt_of_cell? w3 _ c8'; rw [HBQ.out] at this; exact this)).trans c8'
            have HD : Hid (∀ W, Below B w3 W → W.cell? ⟨b, off + fe i l j * 3, none⟩ = some (.int .i64 (uN l (fe i l j))) ∧ W.cell? ⟨b, off + fe i l j * 3 + 1, none⟩ = some (.int .i64 (vN l (fe i l j))) ∧ W.cell? ⟨b, off + fe i l j * 3 + 2, none⟩ = some (.int .i64 (EA l (fe i l j)).W)) := fun W h =>
              ⟨(h.cell (p := ⟨b, off + fe i l j * 3, none⟩) (by have := World.block_lt_of_cell? w3 _ d0; rw [HBQ.out] at this; exact this)).trans d0, (h.cell (p := ⟨b, off + fe i l j * 3 + 1, none⟩) (by have := World.block_lt_of_cell? w3 _ d0; rw [HBQ.out] at this; exact this)).trans d1,
                (h.cell (p := ⟨b, off + fe i l j * 3 + 2, none⟩) (by have := World.block_lt_of_cell? w3 _ d0; rw [HBQ.out] at this; exact this)).trans d2⟩
            clear d0 d1 d2 c8'
            obtain rfl := hin8.adr (by omega)
            obtain rfl := HE.out.adr (by omega)
            obtain ⟨A, rfl, hta, hab⟩ := HTR.out.tree (by rw [hst.lv]; omega) (fun q hq => by rw [hst.len q hq]; omega)
            have HTA := Lib.hid hta
            have hbox := HTR.out.box
            have hxm : fe i l j < m := by omega
            have e1 : (trT (bdS i l j).t (i + j)).left.length = i + j := hst.len 0 (by omega)
            have e2 : (trT (bdS i l j).t (i + j)).right.length = i + j := hst.len 1 (by omega)
            have e3 : (trT (bdS i l j).t (i + j)).par.length = i + j := hst.len 2 (by omega)
            have e4 : (trT (bdS i l j).t (i + j)).hgt.length = i + j := hst.len 3 (by omega)
            have e5 : (trT (bdS i l j).t (i + j)).siz.length = i + j := hst.len 4 (by omega)
            have HN1 : Hid (trT (bdS i l (j + 1)).t (i + (j + 1)) = trT (bdS i l (j + 1)).t (i + (j + 1))) := rfl
            clear hin8 c8 eU eV hta hab hst
            generalize trT (bdS i l j).t (i + j) = T at *
            generalize fe i l j = x at *
            obtain ⟨u, hue⟩ : ∃ u, uN l x = u := ⟨_, rfl⟩
            obtain ⟨v, hve⟩ : ∃ v, vN l x = v := ⟨_, rfl⟩
            have hwe : (EA l x).W = wI l x := rfl
            rw [hue] at HST hu
            rw [hve] at HST hv
            rw [hue, hve, hwe] at HD
            generalize wI l x = we at *
            clear hue hve hwe
            obtain ⟨c, HC⟩ : ∃ c, Hid (i + j = c) := ⟨_, rfl⟩
            rw [HC.out] at e1 e2 e3 e4 e5 HST
            obtain ⟨d0, d1, _⟩ := HD.out wr HWR.out
            have c8' := HC8.out wr HWR.out
            have c0 := hbox.cell (i := 0) rfl
            have c1 := hbox.cell (i := 1) rfl
            have c2 := hbox.cell (i := 2) rfl
            have c3 := hbox.cell (i := 3) rfl
            have c4 := hbox.cell (i := 4) rfl
            have c5 := hbox.cell (i := 5) rfl
            have x0 := cell_regrown c0
            have x1 := cell_regrown c1
            have x2 := cell_regrown c2
            have x3 := cell_regrown c3
            have x4 := cell_regrown c4
            have x5 := cell_regrown c5
            have x6 := cell_regrown c8'
            have x7 := cell_regrown d0
            have x8 := cell_regrown d1
            have E1 := Lib.hid e1
            have E2 := Lib.hid e2
            have E3 := Lib.hid e3
            have E4 := Lib.hid e4
            have E5 := Lib.hid e5
            have t1 : (j : Int) < (F : Int) := by omega
            have t2 : (0 : Int) ≤ (j : Int) := by omega
            have t3 : (x : Int) < (m : Int) := by omega
            have t4 : (0 : Int) ≤ (x : Int) := by omega
            have hbg0 := below_regrown wr
            have HBG0 := Lib.hid hbg0
            clear hbox hbg0 c0 c1 c2 c3 c4 c5 e1 e2 e3 e4 e5 d0 d1 c8'
            go_wp2_with fail
            refine wp_region_quiet_below (by kernel_rfl) (by kernel_rfl) ?_
            repeat (go_big_quiet_step (first
              | (go_at_call 38; with_reducible (show Calls _ _ #[_, .int .i64 (u : Int)] _ _); exact Calls.regrown_of ((rroot_ok _ A T (HTA.out.below (HBG0.out _ _)) u r1 (by rw [E3.out]; exact HST.out.up1)).mono fun _ _ ⟨he, hb⟩ => ⟨he, hb⟩))
              | (go_at_call 38; with_reducible (show Calls _ _ #[_, .int .i64 (v : Int)] _ _); exact Calls.regrown_of ((rroot_ok _ A T (HTA.out.below (HBG0.out _ _)) v r2 (by rw [E3.out]; exact HST.out.up2)).mono fun _ _ ⟨he, hb⟩ => ⟨he, hb⟩))))
            refine wpQuiet_nil ?_
            intro W2 hw2
            obtain ⟨⟨dq, osq⟩, hw3⟩ := hw2
            have HBG : Hid (Below wr.heap.size wr W2) := by show Below _ _ _; rw [hw3]; exact below_regrown wr dq osq
            clear hw3 x0 x1 x2 x3 x4 x5 x6 x7 x8 HBG0
            have HTR2 := Lib.hid (HTR.out.below HBG.out)
            have HTA2 := Lib.hid (HTA.out.below HBG.out)
            have HWR2 := Lib.hid (HWR.out.trans (HBG.out.mono (by have := HWR.out.size; rw [HBQ.out] at this; exact this)))
            clear HTR HTA HWR HBG
            have c0 := HTR2.out.box.cell (i := 0) rfl
            have c1 := HTR2.out.box.cell (i := 1) rfl
            have c2 := HTR2.out.box.cell (i := 2) rfl
            have c3 := HTR2.out.box.cell (i := 3) rfl
            have c4 := HTR2.out.box.cell (i := 4) rfl
            have c5 := HTR2.out.box.cell (i := 5) rfl
            have x0 := cell_regrown c0
            have x1 := cell_regrown c1
            have x2 := cell_regrown c2
            have x3 := cell_regrown c3
            have x4 := cell_regrown c4
            have x5 := cell_regrown c5
            have hbg0 := below_regrown W2
            have HBG0 := Lib.hid hbg0
            have HLV := Lib.hid HST.out.lv
            have HL1 := Lib.hid (E1.out.trans E3.out.symm)
            have HL2 := Lib.hid (E2.out.trans E3.out.symm)
            obtain ⟨bt, hbt⟩ : ∃ bt, decide (kv < ku) = bt := ⟨_, rfl⟩
            have HBT := Lib.hid hbt
            clear hbg0 c0 c1 c2 c3 c4 c5
            go_wp2_with fail
            refine wp_region_quiet_below (by kernel_rfl) (by kernel_rfl) ?_
            repeat (go_big_quiet_step (first
              | (go_at_call 39; with_reducible (show Calls _ _ #[_, .int .i64 (r2 : Int)] _ _); exact Calls.regrown_of ((rleast_ok A T i HLV.out HL1.out HL2.out r2 kv (by rw [E3.out]; exact HST.out.low2) _ (HTA2.out.below (HBG0.out _ _))).mono fun _ _ ⟨he, hb⟩ => ⟨he, hb⟩))
              | (go_at_call 39; with_reducible (show Calls _ _ #[_, .int .i64 (r1 : Int)] _ _); exact Calls.regrown_of ((rleast_ok A T i HLV.out HL1.out HL2.out r1 ku (by rw [E3.out]; exact HST.out.low1) _ (HTA2.out.below (HBG0.out _ _))).mono fun _ _ ⟨he, hb⟩ => ⟨he, hb⟩))))
            refine wpQuiet_nil ?_
            intro W3 hw2
            obtain ⟨⟨dq, osq⟩, hw3⟩ := hw2
            have HBG : Hid (Below W2.heap.size W2 W3) := by show Below _ _ _; rw [hw3]; exact below_regrown W2 dq osq
            clear hw3 x0 x1 x2 x3 x4 x5 HBG0
            have HTR3 := Lib.hid (HTR2.out.below HBG.out)
            have HTA3 := Lib.hid (HTA2.out.below HBG.out)
            have HWR3 := Lib.hid (HWR2.out.trans (HBG.out.mono (by have := HWR2.out.size; rw [HBQ.out] at this; exact this)))
            clear HTR2 HTA2 HWR2 HBG
            go_upto_if 75 with fail
            go_cut [13, 14] (fun s13 s14 wx => Sided T (trT (bdS i l (j + 1)).t (i + (j + 1))) c we s13 s14 ∧ W3 = wx)
            case first =>
              cases bt with
              | true =>
                have hk := of_decide_eq_true HBT.out
                have HSD : Hid (Sided T (trT (bdS i l (j + 1)).t (i + (j + 1))) c we (.int .i64 r2) (.int .i64 r1)) := ⟨r2, r1, z2, z1, rfl, rfl, HST.out.b2, HST.out.b1, HST.out.s2, HST.out.s1, HST.out.y2, HST.out.y1, HST.out.lt hk⟩
                clear hk HBT hbt
                go_wp2_with fail
                go_meet
                exact ⟨HSD.out, rfl⟩
              | false =>
                have hk := of_decide_eq_false HBT.out
                have HSD : Hid (Sided T (trT (bdS i l (j + 1)).t (i + (j + 1))) c we (.int .i64 r1) (.int .i64 r2)) := ⟨r1, r2, z1, z2, rfl, rfl, HST.out.b1, HST.out.b2, HST.out.s1, HST.out.s2, HST.out.y1, HST.out.y2, HST.out.ge hk⟩
                clear hk HBT hbt
                go_wp2_with fail
                go_meet
                exact ⟨HSD.out, rfl⟩
            case rest =>
              obtain ⟨⟨a, b, za, zb, rfl, rfl, hsd⟩, rfl⟩ := hcut
              have HSD := Lib.hid hsd
              have hra := hsd.h1
              have hrb := hsd.h2
              have hya := hsd.y1
              have hyb := hsd.y2
              clear hsd
              have c5 := HTR3.out.box.cell (i := 5) rfl
              obtain ⟨_, _, d2⟩ := HD.out W3 HWR3.out
              have c8' := HC8.out W3 HWR3.out
              obtain ⟨es, s1⟩ := HTA3.out.s.get (i := a) (by rw [E5.out]; exact hra)
              obtain ⟨_, s2⟩ := HTA3.out.s.get (i := b) (by rw [E5.out]; exact hrb)
              rw [HSD.out.s1] at s1
              rw [HSD.out.s2] at s2
              rw [es, E5.out] at c5
              have t5 : (a : Int) < (c : Int) := by omega
              have t6 : (b : Int) < (c : Int) := by omega
              have t7 : (0 : Int) ≤ (a : Int) := by omega
              have t8 : (0 : Int) ≤ (b : Int) := by omega
              have HLNS : Hid (∀ q, q < 5 → (T.at q).length ≤ 100000) := fun q hq => by rw [HST.out.len q hq]; have := HC.out; omega
              have sw : IntKind.i64.wrap ((za : Int) + (zb : Int)) = (za : Int) + (zb : Int) := IntWalk.i64_in _ (by omega)
              go_wp2_with fail
              refine region_tailQ 21 (by kernel_rfl) (by kernel_rfl) (by kernel_rfl) ?_
              intro W4 hw4
              replace c5 := hw4.cell c5
              replace c8' := hw4.cell c8'
              replace d2 := hw4.cell d2
              replace s1 := hw4.cell s1
              replace s2 := hw4.cell s2
              have HTR4 : Hid (RTr B W4 B _ T) := HTR3.out.below (hw4.self)
              have HWR4 := Lib.hid (hw4.bel HWR3.out)
              clear hw4 HST HTA3 HTR3 HWR3 HC8 HD es
              simp only [List.take_succ_cons, List.take_zero, List.drop_succ_cons, List.drop_zero]
              repeat (go_big_quiet_step (fail))
              refine wpQuiet_nil ?_
              go_wp2_with fail
              with_reducible refine (rnode_ok B W4 B _ T HTR4.out HLNS.out (by have := HWR4.out.size; rw [HBQ.out] at this; exact this) a b we ((za : Int) + (zb : Int))).mono ?_
              rintro e W5 ⟨rfl, ⟨V5, htr5⟩, hb5⟩
              have HWR5 := Lib.hid (HWR4.out.trans hb5)
              have HTR5 := Lib.hid htr5
              obtain ⟨pg, pc, ep5, hp5⟩ := htr5.par_form (by show 0 < (T.par ++ [-1]).length; simp)
              have el5 : (T.add a b we ((za : Int) + (zb : Int))).par.length = c + 1 := by show (T.par ++ [-1]).length = _; rw [List.length_append, E3.out]; rfl
              rw [el5] at ep5 hp5
              obtain ⟨C, HCC⟩ : ∃ C, Hid (c + 1 = C) := ⟨_, rfl⟩
              rw [HCC.out] at ep5 hp5 el5
              have hcC : c < C := by have := HCC.out; omega
              have hbx5 := htr5.box
              rw [ep5] at hbx5
              have c3 := hbx5.cell (i := 3) rfl
              obtain ⟨p1, f1⟩ := hp5 a (by omega)
              obtain ⟨o1, ho1⟩ : ∃ o, gi (T.add a b we ((za : Int) + (zb : Int))).par a = o := ⟨_, rfl⟩
              rw [ho1] at p1
              have EP5 := Lib.hid ep5
              have EL5 := Lib.hid el5
              clear htr5 hb5 ep5 el5 hp5 hbx5 c5 c8' d2 s1 s2 sw t5 t6 HTR4 HWR4 ho1
              have g1 : (a : Int) < (C : Int) := by omega
              have g2 : (b : Int) < (C : Int) := by omega
              go_upto_region 20 with fail
              obtain ⟨htr6, hb6⟩ := HTR5.out.set (i := 2) (by omega) (g := pg) (n := C) (cap := pc) EP5.out (j := a) (by show _ < List.length (Tr.par _); rw [EL5.out]; omega) ((i : Int) + (j : Int))
              have HTR6 := Lib.hid htr6
              have HWR6 := Lib.hid (HWR5.out.trans hb6)
              clear htr6 hb6 c3 p1 f1 HTR5 HWR5
              generalize W5.setCell ⟨pg, a, none⟩ (.int .i64 ((i : Int) + (j : Int))) = W6 at *
              have e6 := HTR6.out.box
              rw [EP5.out] at e6
              have c3 := e6.cell (i := 3) rfl
              have ho6 := HTR6.out.own 2 (by omega)
              rw [show V5.at 2 = .slice (some ⟨pg, 0, none⟩) C pc from EP5.out] at ho6
              have el6 : (((T.add a b we ((za : Int) + (zb : Int))).put 2 (((T.add a b we ((za : Int) + (zb : Int))).at 2).set a ((i : Int) + (j : Int)))).at 2).length = C := by
                show (List.set (T.add a b we ((za : Int) + (zb : Int))).par a _).length = C
                rw [List.length_set]; exact EL5.out
              rw [el6] at ho6
              obtain ⟨p1, f1⟩ := own_int ho6 el6 (i := b) (by omega)
              obtain ⟨o2, ho2⟩ : ∃ o, gi (((T.add a b we ((za : Int) + (zb : Int))).put 2 (((T.add a b we ((za : Int) + (zb : Int))).at 2).set a ((i : Int) + (j : Int)))).at 2) b = o := ⟨_, rfl⟩
              rw [ho2] at p1
              have EL6 := Lib.hid el6
              clear e6 ho6 el6 ho2
              go_wp2_with fail
              obtain ⟨htr7, hb7⟩ := HTR6.out.set (i := 2) (by omega) (g := pg) (n := C) (cap := pc) EP5.out (j := b) (by rw [EL6.out]; omega) ((i : Int) + (j : Int))
              have HTR7 := Lib.hid htr7
              have HWR7 := Lib.hid (HWR6.out.trans hb7)
              clear htr7 hb7 c3 p1 f1
              have HFIN : Hid ((((T.add a b we ((za : Int) + (zb : Int))).put 2 (((T.add a b we ((za : Int) + (zb : Int))).at 2).set a ((i : Int) + (j : Int)))).put 2 ((((T.add a b we ((za : Int) + (zb : Int))).put 2 (((T.add a b we ((za : Int) + (zb : Int))).at 2).set a ((i : Int) + (j : Int)))).at 2).set b ((i : Int) + (j : Int)))) = trT (bdS i l (j + 1)).t (i + (j + 1))) := by
                show _ = _
                have hcc : ((i : Int) + (j : Int)) = (c : Int) := by have := HC.out; omega
                rw [HSD.out.eq, hcc]
                rfl
              go_roundw
              case rel => exact ⟨j + 1, V5, by omega, by go_num, by rw [← HFIN.out]; exact HTR7.out, HWR7.out⟩
              case measure => simp [intOf]; omega
          · obtain rfl : j = F := by omega
            have hfin : trT (bdS i l j).t (i + j) = bdL i l := by
              have h := (bd_inv3 HG.out j (by unfold FN; rw [HFF.out]; exact Nat.le_refl _)).1
              have e : FN i l = j := HFF.out
              rw [e] at h
              have h2 := grow_end h
              rw [h2]
              show _ = (bdTo i l (forL i l) (forL i l).length).t
              rw [HFF.out]; rfl
            rw [hfin] at HTR
            have htv := bdL_tv3 HG.out
            have hnb := htv.two
            obtain ⟨A, rfl, hta, hab⟩ := HTR.out.tree (by rw [htv.lv]; omega) (fun q hq => by
              have h1 : q = 0 ∨ q = 1 ∨ q = 2 ∨ q = 3 ∨ q = 4 := by omega
              have e1 := htv.ll
              have e2 := htv.rl
              have e3 := htv.pl
              have e4 := htv.hl
              have e5 := htv.sl
              rcases h1 with rfl | rfl | rfl | rfl | rfl
              · show (bdL i l).left.length ≤ _; omega
              · show (bdL i l).right.length ≤ _; omega
              · show (bdL i l).par.length ≤ _; omega
              · show (bdL i l).hgt.length ≤ _; omega
              · show (bdL i l).siz.length ≤ _; omega)
            have HCAP := Lib.hid (own_cap (HTR.out.own 3 (by omega)))
            have HTA := Lib.hid hta
            have HAB := Lib.hid hab
            have HRR := Lib.hid (HR3.out.below HWR.out (by have := HR3.out.lt; rw [HBQ.out] at this; exact this))
            have HBB := Lib.hid (HB3.out.trans (HWR.out.mono (by have := HBQ.out; have := HB3.out.size; omega)))
            have HLV := Lib.hid htv.lv
            have c0 := HTR.out.box.cell (i := 0) rfl
            have c1 := HTR.out.box.cell (i := 1) rfl
            have c2 := HTR.out.box.cell (i := 2) rfl
            have c3 := HTR.out.box.cell (i := 3) rfl
            have c4 := HTR.out.box.cell (i := 4) rfl
            have c5 := HTR.out.box.cell (i := 5) rfl
            clear hta hab hfin htv hnb
            go_wp2_with (with_reducible refine wpList_storeBlk w.heap.size 27 zeroT [.int .i64 (bdL i l).lv, .slice A.l.o (bdL i l).left.length A.l.c, .slice A.r.o (bdL i l).right.length A.r.c, .slice A.p.o (bdL i l).par.length A.p.c, .slice A.h.o (bdL i l).hgt.length A.h.c, .slice A.s.o (bdL i l).siz.length A.s.c] rfl rfl HRR.out rfl (by kernel_rfl) (by simp [Value.oneCell']) ?_)
            intro w5 hb5 hm5
            have HT5 := Lib.hid (HTA.out.mod hm5 (fun x hx e => by have h1 := HAB.out x hx; have h2 := HR3.out.lt; rw [HBQ.out] at h2; omega))
            have HBR5 := Lib.hid (bel_mod HBB.out hm5 (fun x e => by rw [e]; exact Nat.le_refl _))
            clear c0 c1 c2 c3 c4 c5
            have d0 := hb5.cell (i := 0) rfl
            have d1 := hb5.cell (i := 1) rfl
            have d2 := hb5.cell (i := 2) rfl
            have d3 := hb5.cell (i := 3) rfl
            have d4 := hb5.cell (i := 4) rfl
            have d5 := hb5.cell (i := 5) rfl
            clear hb5 hm5
            go_wp2_with fail
            refine bodyPost_ret (v := .tuple #[.agg #[.int .i64 (bdL i l).lv, .slice A.l.o (bdL i l).left.length A.l.c, .slice A.r.o (bdL i l).right.length A.r.c, .slice A.p.o (bdL i l).par.length A.p.c, .slice A.h.o (bdL i l).hgt.length A.h.c, .slice A.s.o (bdL i l).siz.length A.s.c], .int .i64 0]) (by simp [results, Tryz.results14, go_sem, d0, d1, d2, d3, d4, d5]) rfl ?_
            exact ⟨fun h => absurd HZ.out h, fun _ => ⟨A, rfl, HT5.out, fun x hx => by have h1 := HAB.out x hx; have h2 := HB3.out.size; rw [HBQ.out] at h2; omega, HCAP.out⟩, HBR5.out⟩
  · have t1 : (newErr n l != 0) = true := by simp [hz]
    have HZ := Lib.hid hz
    have HR : Hid (∀ z, newErr n l = z → ∀ w2, Below w.heap.size w w2 → RbPostC w n l (.returned (.tuple #[.agg #[.int .i64 0, .slice none 0 0, .slice none 0 0, .slice none 0 0, .slice none 0 0, .slice none 0 0], .int .i64 z])) w2) := fun z e w2 h => ⟨fun _ => by rw [e], fun h => absurd h HZ.out, h⟩
    clear hz
    go_wp2_with (with_reducible refine wpList_storeBlk w.heap.size 27 zeroT zeroT rfl rfl HR2.out rfl (by kernel_rfl) (by decide) ?_)
    intro w4 hb2 hm2
    have HW2 := Lib.hid (bel_mod HB2.out hm2 (fun x e => by omega))
    have d0 := hb2.cell (i := 0) rfl
    have d1 := hb2.cell (i := 1) rfl
    have d2 := hb2.cell (i := 2) rfl
    have d3 := hb2.cell (i := 3) rfl
    have d4 := hb2.cell (i := 4) rfl
    have d5 := hb2.cell (i := 5) rfl
    clear hb2 hm2
    go_wp2_with fail
    refine bodyPost_ret (v := .tuple #[.agg #[.int .i64 0, .slice none 0 0, .slice none 0 0, .slice none 0 0, .slice none 0 0, .slice none 0 0], .int .i64 (newErr n l)]) (by simp [results, Tryz.results14, go_sem, d0, d1, d2, d3, d4, d5]) rfl ?_
    exact HR.out _ rfl _ HW2.out

end Go.Proofs.YthacjealoomioaaGreatDoor
