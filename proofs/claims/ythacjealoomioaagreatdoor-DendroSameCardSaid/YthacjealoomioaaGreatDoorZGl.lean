/- RfD, RfE, RlW, RlS. -/
import Derived.Test.YthacjealoomioaaGreatDoorZRfH
import Derived.Test.YthacjealoomioaaGreatDoorZGe
import Derived.Test.YthacjealoomioaaGreatDoorZGk
import Derived.Test.YthacjealoomioaaGreatDoorZRlA
import Derived.Test.YthacjealoomioaaGreatDoorZGb
import Derived.Test.YthacjealoomioaaGreatDoorZGg
import Derived.Test.YthacjealoomioaaGreatDoorZGh
import Derived.Outline
import Derived.Deep.RegionHeld3
/- Reference of layer 18: a tree that grows in memory; node. -/
namespace Go.Proofs.YthacjealoomioaaGreatDoor
set_option linter.unusedVariables false
set_option linter.unusedSimpArgs false
open Go.RowKit

theorem intV_snoc (l : List Int) (x : Int) : intV (l ++ [x]) = intV l ++ [.int .i64 x] := by simp [intV]
/-- The five rows. -/
structure RV where
  l : Value
  r : Value
  p : Value
  h : Value
  s : Value

def RV.at (V : RV) (i : Nat) : Value := if i = 0 then V.l else if i = 1 then V.r else if i = 2 then V.p else if i = 3 then V.h else V.s
def Tr.at (t : Tr) (i : Nat) : List Int := if i = 0 then t.left else if i = 1 then t.right else if i = 2 then t.par else if i = 3 then t.hgt else t.siz
def rvT (i : Nat) : TypeId := if i = 3 then 2 else 3

/-- A tree whose lists grow: its box, and five rows of its own. -/
structure RTr (B : Nat) (W : World) (tb : Nat) (V : RV) (t : Tr) : Prop where
  box : Blk W tb 27 [.int .i64 t.lv, V.l, V.r, V.p, V.h, V.s]
  own : ∀ i, i < 5 → W.ownsRow 0 (rvT i) 1 (V.at i) (t.at i).length (intV (t.at i))
  ne : ∀ i j, i < 5 → j < 5 → i ≠ j → ∀ x, (V.at i).ownBlock = some x → (V.at j).ownBlock ≠ some x
  nb : ∀ i, i < 5 → ∀ x, (V.at i).ownBlock = some x → x ≠ tb ∧ B ≤ x
  tbn : B ≤ tb

theorem RTr.mod {F : Nat → Prop} {B : Nat} {W W' : World} {tb : Nat} {V : RV} {t : Tr} (h : RTr B W tb V t) (m : Mod F W W') (hF : ∀ x, x < W.heap.size → ¬ F x) : RTr B W' tb V t :=
  ⟨h.box.mod m (hF tb h.box.lt), fun i hi => owns_mod (h.own i hi) m (fun x hx => hF x (own_lt (h.own i hi) hx)), h.ne, h.nb, h.tbn⟩
theorem RTr.below {B : Nat} {W W' : World} {tb : Nat} {V : RV} {t : Tr} (h : RTr B W tb V t) (m : Below W.heap.size W W') : RTr B W' tb V t := h.mod (Mod.of_below (F := fun _ => False) m) (fun _ _ h => h)

/-- One row put into the tree. -/
def RV.put (V : RV) (i : Nat) (v : Value) : RV := ⟨if i = 0 then v else V.l, if i = 1 then v else V.r, if i = 2 then v else V.p, if i = 3 then v else V.h, if 4 ≤ i then v else V.s⟩
def Tr.put (t : Tr) (i : Nat) (z : List Int) : Tr := ⟨t.lv, if i = 0 then z else t.left, if i = 1 then z else t.right, if i = 2 then z else t.par, if i = 3 then z else t.hgt, if 4 ≤ i then z else t.siz⟩

theorem RV.put_at (V : RV) {i j : Nat} (hi : i < 5) (hj : j < 5) (v : Value) : (V.put i v).at j = if j = i then v else V.at j := by
  have h1 : i = 0 ∨ i = 1 ∨ i = 2 ∨ i = 3 ∨ i = 4 := by omega
  have h2 : j = 0 ∨ j = 1 ∨ j = 2 ∨ j = 3 ∨ j = 4 := by omega
  rcases h1 with rfl | rfl | rfl | rfl | rfl <;> rcases h2 with rfl | rfl | rfl | rfl | rfl <;> rfl
theorem Tr.put_at (t : Tr) {i j : Nat} (hi : i < 5) (hj : j < 5) (z : List Int) : (t.put i z).at j = if j = i then z else t.at j := by
  have h1 : i = 0 ∨ i = 1 ∨ i = 2 ∨ i = 3 ∨ i = 4 := by omega
  have h2 : j = 0 ∨ j = 1 ∨ j = 2 ∨ j = 3 ∨ j = 4 := by omega
  rcases h1 with rfl | rfl | rfl | rfl | rfl <;> rcases h2 with rfl | rfl | rfl | rfl | rfl <;> rfl

theorem RTr.box_set {B : Nat} {W : World} {tb : Nat} {V : RV} {lv : Int} (h : Blk W tb 27 [.int .i64 lv, V.l, V.r, V.p, V.h, V.s]) {i : Nat} (hi : i < 5) (v : Value) :
    Blk (W.setCell ⟨tb, i + 1, none⟩ v) tb 27 [.int .i64 lv, (V.put i v).l, (V.put i v).r, (V.put i v).p, (V.put i v).h, (V.put i v).s] := by
  have := h.set (i + 1) v
  have h1 : i = 0 ∨ i = 1 ∨ i = 2 ∨ i = 3 ∨ i = 4 := by omega
  rcases h1 with rfl | rfl | rfl | rfl | rfl <;> exact this

/-- An append to the i-th row, the new row stored. -/
theorem RTr.app {B : Nat} {W W6 : World} {tb : Nat} {V : RV} {t : Tr} (h : RTr B W tb V t) {i : Nat} (hi : i < 5) {o : Obj} {x : Int} {v6 : Value} (hB : B ≤ W.heap.size)
    (ho : W6.ownsRow 0 (rvT i) 1 v6 ((t.at i).length + 1) (intV (t.at i) ++ [.int .i64 x])) (hg : (W.alloc o).grownBy W6 (V.at i).ownBlock)
    (hn : ∀ k, v6.ownBlock = some k → (V.at i).ownBlock = some k ∨ (W.alloc o).heap.size ≤ k) :
    RTr B (W6.setCell ⟨tb, i + 1, none⟩ v6) tb (V.put i v6) (t.put i (t.at i ++ [x])) ∧ Below B W (W6.setCell ⟨tb, i + 1, none⟩ v6) ∧ (Blk W6 tb 27 [.int .i64 t.lv, V.l, V.r, V.p, V.h, V.s]) := by
  have m : Mod (fun k => (V.at i).ownBlock = some k) W W6 := ((Mod.refl (fun k => (V.at i).ownBlock = some k) W).alloc o).grown hg (fun k hk _ => hk)
  have hz : ∀ k, v6.ownBlock = some k → (V.at i).ownBlock = some k ∨ W.heap.size ≤ k := fun k hk => by
    rcases hn k hk with e | e
    · exact .inl e
    · simp at e; exact .inr (by omega)
  have hbx : Blk W6 tb 27 [.int .i64 t.lv, V.l, V.r, V.p, V.h, V.s] := h.box.mod m (fun e => (h.nb i hi tb e).1 rfl)
  have htl := h.box.lt
  have m2 : Mod (fun k => k = tb) W6 (W6.setCell ⟨tb, i + 1, none⟩ v6) := (Mod.refl _ W6).setAt rfl
  have hv6n : ∀ k, v6.ownBlock = some k → k ≠ tb ∧ B ≤ k := fun k hk => by
    rcases hz k hk with e | e
    · exact h.nb i hi k e
    · exact ⟨by omega, by omega⟩
  refine ⟨⟨RTr.box_set (B := B) hbx hi v6, fun j hj => ?_, fun j k hj hk hjk y hy e => ?_, fun j hj y hy => ?_, h.tbn⟩, ?_, hbx⟩
  · rw [RV.put_at V hi hj, Tr.put_at t hi hj]
    by_cases e : j = i
    · subst e
      rw [if_pos rfl, if_pos rfl, List.length_append, intV_snoc]
      exact owns_mod ho m2 (fun y hy e => (hv6n y hy).1 e)
    · rw [if_neg e, if_neg e]
      exact owns_mod (owns_mod (h.own j hj) m (fun y hy e' => h.ne i j hi hj (fun q => e q.symm) y e' hy)) m2 (fun y hy e' => (h.nb j hj y hy).1 e')
  · rw [RV.put_at V hi hj] at hy
    rw [RV.put_at V hi hk] at e
    by_cases e1 : j = i
    · subst e1
      rw [if_pos rfl] at hy
      rw [if_neg (fun q => hjk q.symm)] at e
      rcases hz y hy with q | q
      · exact h.ne j k hj hk hjk y q e
      · have := own_lt (h.own k hk) e; omega
    · rw [if_neg e1] at hy
      by_cases e2 : k = i
      · subst e2
        rw [if_pos rfl] at e
        rcases hz y e with q | q
        · exact h.ne j k hj hk hjk y hy q
        · have := own_lt (h.own j hj) hy; omega
      · rw [if_neg e2] at e
        exact h.ne j k hj hk hjk y hy e
  · rw [RV.put_at V hi hj] at hy
    by_cases e1 : j = i
    · rw [if_pos e1] at hy; exact hv6n y hy
    · rw [if_neg e1] at hy; exact h.nb j hj y hy
  · exact (m.below hB (fun y hy => (h.nb i hi y hy).2)).trans (m2.below (Nat.le_trans hB m.size) (fun y hy => by rw [hy]; exact h.tbn))

/-- A number of the i-th row changed. -/
theorem RTr.set {B : Nat} {W : World} {tb : Nat} {V : RV} {t : Tr} (h : RTr B W tb V t) {i : Nat} (hi : i < 5) {g n cap : Nat} (hv : V.at i = .slice (some ⟨g, 0, none⟩) n cap) {j : Nat} (hj : j < (t.at i).length) (x : Int) :
    RTr B (W.setCell ⟨g, j, none⟩ (.int .i64 x)) tb V (t.put i ((t.at i).set j x)) ∧ Below B W (W.setCell ⟨g, j, none⟩ (.int .i64 x)) := by
  have hown := h.own i hi
  have hb : (V.at i).ownBlock = some g := by rw [hv]; rfl
  have m : Mod (fun k => k = g) W (W.setCell ⟨g, j, none⟩ (.int .i64 x)) := (Mod.refl _ W).setAt rfl
  have hBl : B ≤ W.heap.size := Nat.le_trans (h.nb i hi g hb).2 (Nat.le_of_lt (own_lt hown hb))
  have hlv : (t.put i ((t.at i).set j x)).lv = t.lv := rfl
  refine ⟨⟨?_, fun q hq => ?_, h.ne, h.nb, h.tbn⟩, m.below hBl (fun y hy => by rw [hy]; exact (h.nb i hi g hb).2)⟩
  · exact h.box.mod m (fun e => (h.nb i hi g hb).1 e.symm)
  · rw [Tr.put_at t hi hq]
    by_cases e : q = i
    · subst e
      rw [if_pos rfl, List.length_set]
      have hl : (t.at q).length = n := by
        rcases hown.2 with ⟨h', _⟩ | ⟨g', cap', cur, h', _⟩
        · rw [hv] at h'; cases h'
        · rw [hv] at h'; injection h' with _ h' _; exact h'.symm
      have e1 : intV ((t.at q).set j x) = (intV (t.at q)).set j (.int .i64 x) := by unfold intV; rw [List.map_set]
      rw [e1]
      rw [hv, hl] at hown ⊢
      exact owns_set hown j (by omega) _
    · rw [if_neg e]
      exact owns_mod (h.own q hq) m (fun y hy e' => h.ne i q hi hq (fun q' => e q'.symm) g hb (by rw [hy, e']))

/-- The tree as it is read. -/
theorem RTr.tree {B : Nat} {W : World} {tb : Nat} {V : RV} {t : Tr} (h : RTr B W tb V t) (hlv : -9223372036854775808 ≤ t.lv ∧ t.lv ≤ 9223372036854775807) (hl : ∀ i, i < 5 → (t.at i).length ≤ 9223372036854775807) :
    ∃ A : TA, V = ⟨.slice A.l.o t.left.length A.l.c, .slice A.r.o t.right.length A.r.c, .slice A.p.o t.par.length A.p.c, .slice A.h.o t.hgt.length A.h.c, .slice A.s.o t.siz.length A.s.c⟩ ∧ TreeAt W A t ∧ (∀ x, A.has t x → B ≤ x) := by
  obtain ⟨a0, c0, b0, e0, r0, q0⟩ := owns_row (h.own 0 (by omega))
  obtain ⟨a1, c1, b1, e1, r1, q1⟩ := owns_row (h.own 1 (by omega))
  obtain ⟨a2, c2, b2, e2, r2, q2⟩ := owns_row (h.own 2 (by omega))
  obtain ⟨a3, c3, b3, e3, r3, q3⟩ := owns_row (h.own 3 (by omega))
  obtain ⟨a4, c4, b4, e4, r4, q4⟩ := owns_row (h.own 4 (by omega))
  have g : ∀ (i : Nat) (z : List Int) (a : Option Addr) (c b : Nat), i < 5 → V.at i = .slice a z.length c → InRow .i64 W a z.length b 0 z → 0 < z.length → B ≤ b := fun i z a c b hi he hr h0 => by
    have := hr.adr h0
    subst this
    exact (h.nb i hi b (by rw [he]; rfl)).2
  refine ⟨⟨⟨a0, b0, 0, c0⟩, ⟨a1, b1, 0, c1⟩, ⟨a2, b2, 0, c2⟩, ⟨a3, b3, 0, c3⟩, ⟨a4, b4, 0, c4⟩⟩, ?_, ⟨r0, r1, r2, r3, r4, ⟨hl 0 (by omega), hl 1 (by omega), hl 2 (by omega), hl 3 (by omega), hl 4 (by omega)⟩, hlv⟩, fun x hx => ?_⟩
  · obtain ⟨vl, vr, vp, vh, vs⟩ := V
    have e0' : vl = _ := e0
    have e1' : vr = _ := e1
    have e2' : vp = _ := e2
    have e3' : vh = _ := e3
    have e4' : vs = _ := e4
    rw [e0', e1', e2', e3', e4']
    rfl
  · rcases hx with ⟨h0, rfl⟩ | ⟨h0, rfl⟩ | ⟨h0, rfl⟩ | ⟨h0, rfl⟩ | ⟨h0, rfl⟩
    · exact g 0 t.left _ _ _ (by omega) e0 r0 h0
    · exact g 1 t.right _ _ _ (by omega) e1 r1 h0
    · exact g 2 t.par _ _ _ (by omega) e2 r2 h0
    · exact g 3 t.hgt _ _ _ (by omega) e3 r3 h0
    · exact g 4 t.siz _ _ _ (by omega) e4 r4 h0

end Go.Proofs.YthacjealoomioaaGreatDoor

/- Reference of layer 18: node. -/
namespace Go.Proofs.YthacjealoomioaaGreatDoor
set_option linter.unusedVariables false
set_option linter.unusedSimpArgs false
open Go.RowKit

def Tr.add (t : Tr) (l r h s : Int) : Tr := ⟨t.lv, t.left ++ [l], t.right ++ [r], t.par ++ [-1], t.hgt ++ [h], t.siz ++ [s]⟩

theorem news_set (w : World) (p : Addr) (u : Value) (T : TypeId) (cs : List Value) : ∀ j x, cs[j]? = some x → ((w.setCell p u).alloc (.cells cs.toArray T)).cell? ((⟨w.heap.size, 0, none⟩ : Addr).add j) = some x := by
  have := news_new (w.setCell p u) T cs
  rw [show (w.setCell p u).heap.size = w.heap.size by simp [World.setCell]] at this
  exact this

end Go.Proofs.YthacjealoomioaaGreatDoor

/- The statements' example of layer 18. -/
namespace Go.Proofs.YthacjealoomioaaGreatDoor
set_option linter.unusedVariables false
set_option linter.unusedSimpArgs false
open Go.RowKit

/-- Where the lists of a tree that was built lie. -/
def BB.ta (B : BB) (m : Nat) : TA := ⟨⟨some ⟨B.lb, 0, none⟩, B.lb, 0, m⟩, ⟨some ⟨B.rb, 0, none⟩, B.rb, 0, m⟩, ⟨some ⟨B.pb, 0, none⟩, B.pb, 0, m⟩, ⟨some ⟨B.hb, 0, none⟩, B.hb, 0, m⟩, ⟨some ⟨B.sb, 0, none⟩, B.sb, 0, m⟩⟩

theorem row_blk {w : World} {b : Nat} {T : TypeId} {l : List Int} (h : Blk w b T (intV l)) : InRow .i64 w (some ⟨b, 0, none⟩) l.length b 0 l :=
  ⟨rfl, fun _ => rfl, fun i hi => by rw [Nat.zero_add]; exact blkIV h hi⟩

theorem BdT.tree {w : World} {B : BB} {n m : Nat} {t : Tr} (h : BdT w B n m t) (hlv : -9223372036854775808 ≤ t.lv ∧ t.lv ≤ 9223372036854775807) (hm : m ≤ 9223372036854775807) : TreeAt w (B.ta m) t :=
  ⟨row_blk h.l, row_blk h.r, row_blk h.p, row_blk h.h, row_blk h.s, ⟨by rw [h.ll]; exact hm, by rw [h.rl]; exact hm, by rw [h.pl]; exact hm, by rw [h.hl]; exact hm, by rw [h.sl]; exact hm⟩, hlv⟩

theorem six_cells {W : World} {g : Nat} {A : TA} {t : Tr} (h : TBox W g A t) : W.cell? ⟨g, 0, none⟩ = some (.int .i64 t.lv) ∧ W.cell? ⟨g, 1, none⟩ = some (.slice A.l.o t.left.length A.l.c) ∧ W.cell? ⟨g, 2, none⟩ = some (.slice A.r.o t.right.length A.r.c) ∧
    W.cell? ⟨g, 3, none⟩ = some (.slice A.p.o t.par.length A.p.c) ∧ W.cell? ⟨g, 4, none⟩ = some (.slice A.h.o t.hgt.length A.h.c) ∧ W.cell? ⟨g, 5, none⟩ = some (.slice A.s.o t.siz.length A.s.c) := ⟨TBox.c0 h, TBox.c1 h, TBox.c2 h, TBox.c3 h, TBox.c4 h, TBox.c5 h⟩

theorem row_lit {w w' : World} {T : TypeId} {l : List Int} (h : w' = w.alloc (.cells (intV l).toArray T)) : InRow .i64 w' (some ⟨w.heap.size, 0, none⟩) l.length w.heap.size 0 l := by
  subst h; exact row_blk (Blk.new w T (intV l))

end Go.Proofs.YthacjealoomioaaGreatDoor

/- The statements' comparison of trees. -/
namespace Go.Proofs.YthacjealoomioaaGreatDoor
set_option linter.unusedVariables false
set_option linter.unusedSimpArgs false
open Go.RowKit

theorem TBox.new1 (w : World) (o : Obj) (A : TA) (t : Tr) : TBox ((w.alloc o).alloc (.cells #[.int .i64 t.lv, .slice A.l.o t.left.length A.l.c, .slice A.r.o t.right.length A.r.c, .slice A.p.o t.par.length A.p.c, .slice A.h.o t.hgt.length A.h.c, .slice A.s.o t.siz.length A.s.c] 27)) (w.heap.size + 1) A t := by
  have := TBox.new (w.alloc o) A t
  rw [show (w.alloc o).heap.size = w.heap.size + 1 by simp] at this
  exact this

set_option maxHeartbeats 8000000 in
set_option maxRecDepth 100000 in
theorem rsametree_ok (w : World) (A A' : TA) (t : Tr) (ht : TreeAt w A t) (ht' : TreeAt w A' t) : Calls Tryz.prog 18 #[A.agg t, A'.agg t] w (RetB (.bool true) w) := by
  have HW1 := Lib.hid (bel_alloc w (.cells #[.int .i64 t.lv, .slice A.l.o t.left.length A.l.c, .slice A.r.o t.right.length A.r.c, .slice A.p.o t.par.length A.p.c, .slice A.h.o t.hgt.length A.h.c, .slice A.s.o t.siz.length A.s.c] 27))
  have HW2 := Lib.hid (bel_alloc (w.alloc (.cells #[.int .i64 t.lv, .slice A.l.o t.left.length A.l.c, .slice A.r.o t.right.length A.r.c, .slice A.p.o t.par.length A.p.c, .slice A.h.o t.hgt.length A.h.c, .slice A.s.o t.siz.length A.s.c] 27)) (.cells #[.int .i64 t.lv, .slice A'.l.o t.left.length A'.l.c, .slice A'.r.o t.right.length A'.r.c, .slice A'.p.o t.par.length A'.p.c, .slice A'.h.o t.hgt.length A'.h.c, .slice A'.s.o t.siz.length A'.s.c] 27))
  have HX := Lib.hid (Blk.below (TBox.new w A t) HW2.out (Blk.lt (TBox.new w A t)))
  have HY := Lib.hid (TBox.new1 w (.cells #[.int .i64 t.lv, .slice A.l.o t.left.length A.l.c, .slice A.r.o t.right.length A.r.c, .slice A.p.o t.par.length A.p.c, .slice A.h.o t.hgt.length A.h.c, .slice A.s.o t.siz.length A.s.c] 27) A' t)
  have HW := Lib.hid (bel_then HW1.out HW2.out)
  have HT := Lib.hid (ht.below HW.out)
  have HT' := Lib.hid (ht'.below HW.out)
  have c4 := TBox.c4 HX.out
  have d4 := TBox.c4 HY.out
  have hhl := ht.ln.2.2.2.1
  clear ht ht' HW1 HW2
  have t0 : ((t.hgt.length : Int) != (t.hgt.length : Int)) = false := by simp
  show Calls _ _ #[.agg #[.int .i64 t.lv, .slice A.l.o t.left.length A.l.c, .slice A.r.o t.right.length A.r.c, .slice A.p.o t.par.length A.p.c, .slice A.h.o t.hgt.length A.h.c, .slice A.s.o t.siz.length A.s.c], .agg #[.int .i64 t.lv, .slice A'.l.o t.left.length A'.l.c, .slice A'.r.o t.right.length A'.r.c, .slice A'.p.o t.par.length A'.p.c, .slice A'.h.o t.hgt.length A'.h.c, .slice A'.s.o t.siz.length A'.s.c]] _ _
  go_enter Tryz.func18, Tryz.ntmps18
  go_wp2_with fail
  generalize w.heap.size + 1 = y at *
  generalize hxe : w.heap.size = x at *
  have HXE := Lib.hid hxe
  clear hxe
  generalize (w.alloc (.cells #[.int .i64 t.lv, .slice A.l.o t.left.length A.l.c, .slice A.r.o t.right.length A.r.c, .slice A.p.o t.par.length A.p.c, .slice A.h.o t.hgt.length A.h.c, .slice A.s.o t.siz.length A.s.c] 27)).alloc (.cells #[.int .i64 t.lv, .slice A'.l.o t.left.length A'.l.c, .slice A'.r.o t.right.length A'.r.c, .slice A'.p.o t.par.length A'.p.c, .slice A'.h.o t.hgt.length A'.h.c, .slice A'.s.o t.siz.length A'.s.c] 27) = W at *
  clear c4 d4
  go_loopw [5] (fun s wr => ∃ k : Nat, k ≤ t.hgt.length ∧ s = .int .i64 k ∧ Below W.heap.size W wr) (fun s _ => t.hgt.length - (intOf s).toNat)
  case atStart => exact ⟨0, Nat.zero_le _, rfl, Below.refl _ _⟩
  case round =>
    obtain ⟨k, hk, rfl, hb⟩ := hrel
    have HB := Lib.hid hb
    have HXR := Lib.hid (Blk.below HX.out hb (Blk.lt HX.out))
    have HYR := Lib.hid (Blk.below HY.out hb (Blk.lt HY.out))
    have HTR := Lib.hid (HT.out.below hb)
    have HTR' := Lib.hid (HT'.out.below hb)
    have c4 := TBox.c4 HXR.out
    have d4 := TBox.c4 HYR.out
    by_cases hkn : k < t.hgt.length
    · obtain ⟨e1, c0⟩ := HTR.out.h.get hkn
      obtain ⟨e2, d0⟩ := HTR'.out.h.get hkn
      rw [e1] at c4
      rw [e2] at d4
      generalize gi t.hgt k = z at *
      clear hb e1 e2
      have t1 : (k : Int) < (t.hgt.length : Int) := by omega
      have t2 : (z != z) = false := by simp
      have t3 : (0 : Int) ≤ (k : Int) := by omega
      go_wp2_with fail
      go_quiet (fail)
      go_wp2_with fail
      go_roundw
      case rel => exact ⟨k + 1, by omega, by go_num, bel_drewN HB.out _⟩
      case measure => simp [intOf]; omega
    · have hke : k = t.hgt.length := by omega
      have t1 : decide ((k : Int) < (t.hgt.length : Int)) = false := by simp; omega
      have t1' : decide (k < t.hgt.length) = false := by simp; omega
      clear hb hke hkn
      have c0 := TBox.c0 HXR.out
      have d0 := TBox.c0 HYR.out
      have c1 := TBox.c1 HXR.out
      have d1 := TBox.c1 HYR.out
      have tv : (t.lv == t.lv) = true := by simp
      generalize hlv : t.lv = lv at *
      have HLV := Lib.hid hlv
      clear hlv
      go_wp2_with fail
      with_reducible refine (rsame_ok _ A.l.o A'.l.o t.left.length A.l.c A'.l.c A.l.b A'.l.b A.l.f A'.l.f t.left HTR.out.l HTR'.out.l HTR.out.ln.1).mono ?_
      rintro e w2 ⟨rfl, hb⟩
      have HB2 := Lib.hid (bel_then HB.out hb)
      have HX2 := Lib.hid (Blk.below HXR.out hb (Blk.lt HXR.out))
      have HY2 := Lib.hid (Blk.below HYR.out hb (Blk.lt HYR.out))
      have HT2 := Lib.hid (HTR.out.below hb)
      have HU2 := Lib.hid (HTR'.out.below hb)
      clear hb c1 d1
      clear c0 d0 c4 d4
      have c2 := TBox.c2 HX2.out
      have d2 := TBox.c2 HY2.out
      go_wp2_with fail
      with_reducible refine (rsame_ok _ A.r.o A'.r.o t.right.length A.r.c A'.r.c A.r.b A'.r.b A.r.f A'.r.f t.right HT2.out.r HU2.out.r HT2.out.ln.2.1).mono ?_
      rintro e w3 ⟨rfl, hb⟩
      have HB3 := Lib.hid (bel_then HB2.out hb)
      have HX3 := Lib.hid (Blk.below HX2.out hb (Blk.lt HX2.out))
      have HY3 := Lib.hid (Blk.below HY2.out hb (Blk.lt HY2.out))
      have HT3 := Lib.hid (HT2.out.below hb)
      have HU3 := Lib.hid (HU2.out.below hb)
      clear hb c2 d2
      have c3 := TBox.c3 HX3.out
      have d3 := TBox.c3 HY3.out
      go_wp2_with fail
      with_reducible refine (rsame_ok _ A.p.o A'.p.o t.par.length A.p.c A'.p.c A.p.b A'.p.b A.p.f A'.p.f t.par HT3.out.p HU3.out.p HT3.out.ln.2.2.1).mono ?_
      rintro e w4 ⟨rfl, hb⟩
      have HB4 := Lib.hid (bel_then HB3.out hb)
      have HX4 := Lib.hid (Blk.below HX3.out hb (Blk.lt HX3.out))
      have HY4 := Lib.hid (Blk.below HY3.out hb (Blk.lt HY3.out))
      have HT4 := Lib.hid (HT3.out.below hb)
      have HU4 := Lib.hid (HU3.out.below hb)
      clear hb c3 d3
      have c5 := TBox.c5 HX4.out
      have d5 := TBox.c5 HY4.out
      go_wp2_with fail
      with_reducible refine (rsame_ok _ A.s.o A'.s.o t.siz.length A.s.c A'.s.c A.s.b A'.s.b A.s.f A'.s.f t.siz HT4.out.s HU4.out.s HT4.out.ln.2.2.2.2).mono ?_
      rintro e w5 ⟨rfl, hb⟩
      have HB5 := Lib.hid (bel_then HB4.out hb)
      have HX5 := Lib.hid (Blk.below HX4.out hb (Blk.lt HX4.out))
      have HY5 := Lib.hid (Blk.below HY4.out hb (Blk.lt HY4.out))
      have HT5 := Lib.hid (HT4.out.below hb)
      have HU5 := Lib.hid (HU4.out.below hb)
      clear hb c5 d5
      go_wp2_with fail
      go_ret
      exact ⟨rfl, HW.out.trans (HB5.out.mono (by have := HW.out.size; rw [HXE.out] at this; exact this)) |> fun h => by rw [HXE.out]; exact h⟩

end Go.Proofs.YthacjealoomioaaGreatDoor
