/- RcTm, RcIn, RcLs, RcLt. -/
import Derived.Test.YthacjealoomioaaGreatDoorZGd
import Derived.Test.YthacjealoomioaaGreatDoorZGb
/- A tree in memory; recon.leaf, recon.below. -/
namespace Go.Proofs.YthacjealoomioaaGreatDoor
set_option linter.unusedVariables false
set_option linter.unusedSimpArgs false
open Go.RowKit

/-- Where a list lies. -/
structure SA where
  o : Option Addr
  b : Nat
  f : Nat
  c : Nat

/-- Where a tree's lists lie. -/
structure TA where
  l : SA
  r : SA
  p : SA
  h : SA
  s : SA

abbrev TA.cells (A : TA) (t : Tr) : List Value :=
  [.int .i64 t.lv, .slice A.l.o t.left.length A.l.c, .slice A.r.o t.right.length A.r.c, .slice A.p.o t.par.length A.p.c, .slice A.h.o t.hgt.length A.h.c, .slice A.s.o t.siz.length A.s.c]
abbrev TA.agg (A : TA) (t : Tr) : Value :=
  .agg #[.int .i64 t.lv, .slice A.l.o t.left.length A.l.c, .slice A.r.o t.right.length A.r.c, .slice A.p.o t.par.length A.p.c, .slice A.h.o t.hgt.length A.h.c, .slice A.s.o t.siz.length A.s.c]

/-- A tree that is read. -/
structure TreeAt (w : World) (A : TA) (t : Tr) : Prop where
  l : InRow .i64 w A.l.o t.left.length A.l.b A.l.f t.left
  r : InRow .i64 w A.r.o t.right.length A.r.b A.r.f t.right
  p : InRow .i64 w A.p.o t.par.length A.p.b A.p.f t.par
  h : InRow .i64 w A.h.o t.hgt.length A.h.b A.h.f t.hgt
  s : InRow .i64 w A.s.o t.siz.length A.s.b A.s.f t.siz
  ln : t.left.length ≤ 9223372036854775807 ∧ t.right.length ≤ 9223372036854775807 ∧ t.par.length ≤ 9223372036854775807 ∧ t.hgt.length ≤ 9223372036854775807 ∧ t.siz.length ≤ 9223372036854775807
  lw : -9223372036854775808 ≤ t.lv ∧ t.lv ≤ 9223372036854775807

/-- The blocks of its lists. -/
def TA.has (A : TA) (t : Tr) (k : Nat) : Prop := (0 < t.left.length ∧ k = A.l.b) ∨ (0 < t.right.length ∧ k = A.r.b) ∨ (0 < t.par.length ∧ k = A.p.b) ∨ (0 < t.hgt.length ∧ k = A.h.b) ∨ (0 < t.siz.length ∧ k = A.s.b)

theorem TreeAt.mod {F : Nat → Prop} {w w' : World} {A : TA} {t : Tr} (h : TreeAt w A t) (m : Mod F w w') (hF : ∀ k, A.has t k → ¬ F k) : TreeAt w' A t :=
  ⟨h.l.mod m fun e => hF _ (.inl ⟨e, rfl⟩), h.r.mod m fun e => hF _ (.inr (.inl ⟨e, rfl⟩)), h.p.mod m fun e => hF _ (.inr (.inr (.inl ⟨e, rfl⟩))), h.h.mod m fun e => hF _ (.inr (.inr (.inr (.inl ⟨e, rfl⟩)))), h.s.mod m fun e => hF _ (.inr (.inr (.inr (.inr ⟨e, rfl⟩)))), h.ln, h.lw⟩

theorem TreeAt.below {w w' : World} {A : TA} {t : Tr} (h : TreeAt w A t) (hb : Below w.heap.size w w') : TreeAt w' A t := h.mod (Mod.of_below (F := fun _ => False) hb) (fun _ _ e => e)

theorem TreeAt.lt {w : World} {A : TA} {t : Tr} (h : TreeAt w A t) {k : Nat} (hk : A.has t k) : k < w.heap.size := by
  rcases hk with ⟨e, rfl⟩ | ⟨e, rfl⟩ | ⟨e, rfl⟩ | ⟨e, rfl⟩ | ⟨e, rfl⟩
  · exact h.l.lt e
  · exact h.r.lt e
  · exact h.p.lt e
  · exact h.h.lt e
  · exact h.s.lt e

/-- A row's cell and its address. -/
theorem InRow.get {w : World} {a : Option Addr} {b f : Nat} {z : List Int} (h : InRow .i64 w a z.length b f z) {i : Nat} (hi : i < z.length) : a = some ⟨b, f, none⟩ ∧ w.cell? ⟨b, f + i, none⟩ = some (.int .i64 (gi z i)) :=
  ⟨h.adr (by omega), h.cell i hi⟩

/-- The tree in a box. -/
def TBox (w : World) (tb : Nat) (A : TA) (t : Tr) : Prop := Blk w tb 27 (A.cells t)
theorem TBox.c0 {w : World} {tb : Nat} {A : TA} {t : Tr} (h : TBox w tb A t) : w.cell? ⟨tb, 0, none⟩ = some (.int .i64 t.lv) := Blk.cell h (i := 0) rfl
theorem TBox.c1 {w : World} {tb : Nat} {A : TA} {t : Tr} (h : TBox w tb A t) : w.cell? ⟨tb, 1, none⟩ = some (.slice A.l.o t.left.length A.l.c) := Blk.cell h (i := 1) rfl
theorem TBox.c2 {w : World} {tb : Nat} {A : TA} {t : Tr} (h : TBox w tb A t) : w.cell? ⟨tb, 2, none⟩ = some (.slice A.r.o t.right.length A.r.c) := Blk.cell h (i := 2) rfl
theorem TBox.c3 {w : World} {tb : Nat} {A : TA} {t : Tr} (h : TBox w tb A t) : w.cell? ⟨tb, 3, none⟩ = some (.slice A.p.o t.par.length A.p.c) := Blk.cell h (i := 3) rfl
theorem TBox.c4 {w : World} {tb : Nat} {A : TA} {t : Tr} (h : TBox w tb A t) : w.cell? ⟨tb, 4, none⟩ = some (.slice A.h.o t.hgt.length A.h.c) := Blk.cell h (i := 4) rfl
theorem TBox.c5 {w : World} {tb : Nat} {A : TA} {t : Tr} (h : TBox w tb A t) : w.cell? ⟨tb, 5, none⟩ = some (.slice A.s.o t.siz.length A.s.c) := Blk.cell h (i := 5) rfl
theorem TBox.new (w : World) (A : TA) (t : Tr) : TBox (w.alloc (.cells #[.int .i64 t.lv, .slice A.l.o t.left.length A.l.c, .slice A.r.o t.right.length A.r.c, .slice A.p.o t.par.length A.p.c, .slice A.h.o t.hgt.length A.h.c, .slice A.s.o t.siz.length A.s.c] 27)) w.heap.size A t := Blk.new w 27 (A.cells t)

theorem bel_alloc (w : World) (o : Obj) : Below w.heap.size w (w.alloc o) := (Below.refl _ _).alloc (Nat.le_refl _) _

def leafB (t : Tr) (x : Nat) : Bool := decide (LeafAt t x)
def innB (t : Tr) (ls : List Nat) (x : Nat) : Bool := decide (InnAt t ls x)
def belB (t : Tr) (x : Nat) : Bool := decide (BelAt t x)

set_option maxHeartbeats 1000000 in
theorem leaf_ok (w : World) (A : TA) (t : Tr) (ht : TreeAt w A t) (x : Nat) (h1 : x < t.left.length) (h2 : x < t.right.length) (h3 : x < t.hgt.length) (h4 : x < t.siz.length) :
    Calls Tryz.prog 91 #[A.agg t, .int .i64 x] w (RetB (.bool (leafB t x)) w) := by
  have HT := Lib.hid ht
  have HB := Lib.hid (TBox.new w A t)
  have hb := bel_alloc w (.cells #[.int .i64 t.lv, .slice A.l.o t.left.length A.l.c, .slice A.r.o t.right.length A.r.c, .slice A.p.o t.par.length A.p.c, .slice A.h.o t.hgt.length A.h.c, .slice A.s.o t.siz.length A.s.c] 27)
  have HW := Lib.hid hb
  have HT2 := Lib.hid (HT.out.below hb)
  obtain ⟨e1, l1⟩ := HT2.out.l.get h1
  obtain ⟨e2, l2⟩ := HT2.out.r.get h2
  obtain ⟨e3, l3⟩ := HT2.out.h.get h3
  obtain ⟨e4, l4⟩ := HT2.out.s.get h4
  have c1 := HB.out.c1
  have c2 := HB.out.c2
  have c4 := HB.out.c4
  have c5 := HB.out.c5
  obtain ⟨ln1, ln2, _, ln4, ln5⟩ := ht.ln
  have HL : Hid (leafB t x = decide (gi t.left x = -1 ∧ gi t.right x = -1 ∧ gi t.hgt x = 0 ∧ gi t.siz x = 1)) := rfl
  clear hb ht
  show Calls _ _ #[.agg #[.int .i64 t.lv, .slice A.l.o t.left.length A.l.c, .slice A.r.o t.right.length A.r.c, .slice A.p.o t.par.length A.p.c, .slice A.h.o t.hgt.length A.h.c, .slice A.s.o t.siz.length A.s.c], _] _ _
  generalize A.l.o = lo at *
  generalize A.r.o = ro at *
  generalize A.h.o = ho at *
  generalize A.s.o = so at *
  subst e1 e2 e3 e4
  have x1 : (x : Int) < (t.left.length : Int) := by omega
  have x2 : (x : Int) < (t.right.length : Int) := by omega
  have x4 : (x : Int) < (t.hgt.length : Int) := by omega
  have x5 : (x : Int) < (t.siz.length : Int) := by omega
  generalize gi t.left x = a at *
  generalize gi t.right x = b at *
  generalize gi t.hgt x = c at *
  generalize gi t.siz x = d at *
  go_enter Tryz.func91, Tryz.ntmps91
  go_wp2_with fail
  all_goals
    go_ret
    refine ⟨ret_bool ?_, HW.out⟩
    rw [HL.out, Bool.eq_iff_iff]
    simp [*]

set_option maxHeartbeats 1000000 in
theorem below_ok (w : World) (A : TA) (t : Tr) (ht : TreeAt w A t) (hl : LensOk t) (x : Nat) (hx : x < t.par.length) :
    Calls Tryz.prog 95 #[A.agg t, .int .i64 x] w (RetB (.bool (belB t x)) w) := by
  have HT := Lib.hid ht
  have HB := Lib.hid (TBox.new w A t)
  have hb := bel_alloc w (.cells #[.int .i64 t.lv, .slice A.l.o t.left.length A.l.c, .slice A.r.o t.right.length A.r.c, .slice A.p.o t.par.length A.p.c, .slice A.h.o t.hgt.length A.h.c, .slice A.s.o t.siz.length A.s.c] 27)
  have HW := Lib.hid hb
  have HT2 := Lib.hid (HT.out.below hb)
  obtain ⟨hl1, hl2, -, -⟩ := hl
  obtain ⟨e1, _⟩ := HT2.out.l.get (i := x) (by omega)
  obtain ⟨e2, _⟩ := HT2.out.r.get (i := x) (by omega)
  obtain ⟨e3, l3⟩ := HT2.out.p.get hx
  have c1 := HB.out.c1
  have c2 := HB.out.c2
  have c3 := HB.out.c3
  obtain ⟨ln1, ln2, ln3, -, -⟩ := ht.ln
  have HL : Hid (∀ p, gi t.par x = p → (belB t x = decide (p = -1 ∨ ((0 ≤ p ∧ p < t.par.length) ∧ (gi t.left p.toNat = x ∨ gi t.right p.toNat = x))))) := by rintro p rfl; rfl
  clear hb ht
  show Calls _ _ #[.agg #[.int .i64 t.lv, .slice A.l.o t.left.length A.l.c, .slice A.r.o t.right.length A.r.c, .slice A.p.o t.par.length A.p.c, .slice A.h.o t.hgt.length A.h.c, .slice A.s.o t.siz.length A.s.c], _] _ _
  obtain ⟨p, HP⟩ : ∃ p, Hid (gi t.par x = p) := ⟨_, rfl⟩
  rw [HP.out] at l3
  replace HL := Lib.hid (HL.out p HP.out)
  have x3 : (x : Int) < (t.par.length : Int) := by omega
  by_cases hp1 : p = -1
  · have t1 : (p == -1) = true := by simp [hp1]
    have HR : Hid (belB t x = true) := by show _ = _; rw [HL.out, hp1]; simp
    clear hp1
    clear hl1 hl2
    generalize A.l.o = lo at *
    generalize A.r.o = ro at *
    generalize A.p.o = po at *
    subst e1 e2 e3
    go_enter Tryz.func95, Tryz.ntmps95
    go_wp2_with fail
    go_ret
    exact ⟨ret_bool HR.out.symm, HW.out⟩
  · have t1 : (p == -1) = false := by simp [hp1]
    by_cases hp2 : 0 ≤ p ∧ p < (t.par.length : Int)
    · obtain ⟨q, rfl⟩ := Int.eq_ofNat_of_zero_le hp2.1
      have hq : q < t.par.length := by omega
      obtain ⟨_, l1⟩ := HT2.out.l.get (i := q) (by omega)
      obtain ⟨_, l2⟩ := HT2.out.r.get (i := q) (by omega)
      have HR : Hid (belB t x = decide (gi t.left q = x ∨ gi t.right q = x)) := by
        show _ = _
        rw [HL.out, Int.toNat_natCast, Bool.eq_iff_iff]
        simp only [decide_eq_true_eq]
        constructor
        · rintro (h | h)
          · omega
          · exact h.2
        · intro h; exact .inr ⟨hp2, h⟩
      have t2 : (0 : Int) ≤ (q : Int) := by omega
      have t3 : decide (q < t.par.length) = true := by simp [hq]
      have t4 : (q : Int) < (t.left.length : Int) := by omega
      have t5 : (q : Int) < (t.right.length : Int) := by omega
      clear hp1 hp2
      clear hl1 hl2
      generalize gi t.left q = a at *
      generalize gi t.right q = b at *
      generalize A.l.o = lo at *
      generalize A.r.o = ro at *
      generalize A.p.o = po at *
      subst e1 e2 e3
      go_enter Tryz.func95, Tryz.ntmps95
      go_wp2_with fail
      all_goals
        go_ret
        refine ⟨ret_bool ?_, HW.out⟩
        rw [HR.out, Bool.eq_iff_iff]
        simp [*]
    · have HR : Hid (belB t x = false) := by
        show _ = _
        rw [HL.out, decide_eq_false_iff_not]
        rintro (h | h)
        · exact hp1 h
        · exact hp2 h.1
      clear hp1
      clear hl1 hl2
      generalize A.l.o = lo at *
      generalize A.r.o = ro at *
      generalize A.p.o = po at *
      subst e1 e2 e3
      by_cases h0 : 0 ≤ p
      · have t2 : decide (0 ≤ p) = true := by simp [h0]
        have t3 : decide (p < (t.par.length : Int)) = false := by simp; omega
        clear h0 hp2
        go_enter Tryz.func95, Tryz.ntmps95
        go_wp2_with fail
        go_ret
        exact ⟨ret_bool HR.out.symm, HW.out⟩
      · have t2 : decide (0 ≤ p) = false := by simp [h0]
        clear h0 hp2
        go_enter Tryz.func95, Tryz.ntmps95
        go_wp2_with fail
        go_ret
        exact ⟨ret_bool HR.out.symm, HW.out⟩

end Go.Proofs.YthacjealoomioaaGreatDoor

/- recon.inner. -/
namespace Go.Proofs.YthacjealoomioaaGreatDoor
set_option linter.unusedVariables false
set_option linter.unusedSimpArgs false
open Go.RowKit

theorem inn_iff {t : Tr} {ls : List Nat} {x : Nat} {a b : Int} (ha : gi t.left x = a) (hb : gi t.right x = b) : innB t ls x = true ↔ (((0 ≤ a ∧ a < x) ∧ (0 ≤ b ∧ b < x) ∧ a ≠ b) ∧
    (gi t.par a.toNat = x ∧ gi t.par b.toNat = x ∧ ls.getD a.toNat 0 < ls.getD b.toNat 0) ∧ gi t.siz x = IntKind.i64.wrap (gi t.siz a.toNat + gi t.siz b.toNat) ∧ ((x : Int) = t.lv ∨ gi t.hgt (x - 1) ≤ gi t.hgt x)) := by
  subst ha hb; exact decide_eq_true_iff

set_option maxHeartbeats 8000000 in
set_option maxRecDepth 100000 in
theorem inner_ok (w : World) (A : TA) (t : Tr) (ht : TreeAt w A t) (hl : LensOk t) (x : Nat) (hx : x < t.par.length) (hlv0 : 0 ≤ t.lv) (hlv : t.lv ≤ x) (ls : List Nat) (lb m : Nat) (hxm : x < m) (hm : m ≤ 9223372036854775807)
    (hls : ∀ y, y < x → w.cell? ⟨lb, y, none⟩ = some (.int .i64 ((ls.getD y 0 : Nat) : Int))) :
    Calls Tryz.prog 93 #[A.agg t, .slice (some ⟨lb, 0, none⟩) m m, .int .i64 x] w (RetB (.bool (innB t ls x)) w) := by
  have HT := Lib.hid ht
  have HB := Lib.hid (TBox.new w A t)
  have hb := bel_alloc w (.cells #[.int .i64 t.lv, .slice A.l.o t.left.length A.l.c, .slice A.r.o t.right.length A.r.c, .slice A.p.o t.par.length A.p.c, .slice A.h.o t.hgt.length A.h.c, .slice A.s.o t.siz.length A.s.c] 27)
  have HW := Lib.hid hb
  have HT2 := Lib.hid (HT.out.below hb)
  have HLS : Hid (∀ y, y < x → (w.alloc (.cells #[.int .i64 t.lv, .slice A.l.o t.left.length A.l.c, .slice A.r.o t.right.length A.r.c, .slice A.p.o t.par.length A.p.c, .slice A.h.o t.hgt.length A.h.c, .slice A.s.o t.siz.length A.s.c] 27)).cell? ⟨lb, y, none⟩ = some (.int .i64 ((ls.getD y 0 : Nat) : Int))) := fun y hy => (hb.cell (World.block_lt_of_cell? w _ (hls y hy))).trans (hls y hy)
  obtain ⟨hl1, hl2, hl4, hl5⟩ := hl
  obtain ⟨e1, l1⟩ := HT2.out.l.get (i := x) (by omega)
  obtain ⟨e2, l2⟩ := HT2.out.r.get (i := x) (by omega)
  obtain ⟨e3, _⟩ := HT2.out.p.get hx
  obtain ⟨e4, h1⟩ := HT2.out.h.get (i := x) (by omega)
  obtain ⟨e5, s1⟩ := HT2.out.s.get (i := x) (by omega)
  have c0 := HB.out.c0
  have c1 := HB.out.c1
  have c2 := HB.out.c2
  have c3 := HB.out.c3
  have c4 := HB.out.c4
  have c5 := HB.out.c5
  obtain ⟨ln1, ln2, ln3, ln4, ln5⟩ := ht.ln
  clear hb ht hls
  show Calls _ _ #[.agg #[.int .i64 t.lv, .slice A.l.o t.left.length A.l.c, .slice A.r.o t.right.length A.r.c, .slice A.p.o t.par.length A.p.c, .slice A.h.o t.hgt.length A.h.c, .slice A.s.o t.siz.length A.s.c], _, _] _ _
  obtain ⟨a, HA⟩ : ∃ p, Hid (gi t.left x = p) := ⟨_, rfl⟩
  obtain ⟨b, HB2⟩ : ∃ p, Hid (gi t.right x = p) := ⟨_, rfl⟩
  rw [HA.out] at l1
  rw [HB2.out] at l2
  have HL := Lib.hid (inn_iff (ls := ls) HA.out HB2.out)
  have x1 : (x : Int) < (t.left.length : Int) := by omega
  have x2 : (x : Int) < (t.right.length : Int) := by omega
  have x3 : (x : Int) < (t.par.length : Int) := by omega
  have x4 : (x : Int) < (t.hgt.length : Int) := by omega
  have x5 : (x : Int) < (t.siz.length : Int) := by omega
  have HL1 := Lib.hid hl1
  have HL2 := Lib.hid hl2
  have HL4 := Lib.hid hl4
  have HL5 := Lib.hid hl5
  clear hl1 hl2 hl4 hl5
  by_cases hg : a < 0
  · have g0 : decide (a < 0) = true := by simp [hg]
    have HR : Hid (innB t ls x = false) := by
      show _ = _
      rw [Bool.eq_false_iff]
      intro hh
      obtain ⟨⟨⟨k1, k2⟩, ⟨k3, k4⟩, k5⟩, ⟨k6, k7, k8⟩, k9, k10⟩ := HL.out.1 hh
      omega
    clear hg
    generalize A.l.o = lo at *
    generalize A.r.o = ro at *
    generalize A.p.o = po at *
    generalize A.h.o = ho at *
    generalize A.s.o = so at *
    subst e1 e2 e3 e4 e5
    go_enter Tryz.func93, Tryz.ntmps93
    go_wp2_with fail
    go_quiet (fail)
    go_wp2_with fail
    go_ret
    exact ⟨ret_bool HR.out.symm, by repeat (first | exact HW.out | apply bel_drewN)⟩
  have g0 : decide (a < 0) = false := by simp; omega
  have q0 := hg
  clear hg
  by_cases hg : (x : Int) ≤ a
  · have g1 : decide ((x : Int) ≤ a) = true := by simp [hg]
    have HR : Hid (innB t ls x = false) := by
      show _ = _
      rw [Bool.eq_false_iff]
      intro hh
      obtain ⟨⟨⟨k1, k2⟩, ⟨k3, k4⟩, k5⟩, ⟨k6, k7, k8⟩, k9, k10⟩ := HL.out.1 hh
      omega
    clear hg
    generalize A.l.o = lo at *
    generalize A.r.o = ro at *
    generalize A.p.o = po at *
    generalize A.h.o = ho at *
    generalize A.s.o = so at *
    subst e1 e2 e3 e4 e5
    go_enter Tryz.func93, Tryz.ntmps93
    go_wp2_with fail
    go_quiet (fail)
    go_wp2_with fail
    go_ret
    exact ⟨ret_bool HR.out.symm, by repeat (first | exact HW.out | apply bel_drewN)⟩
  have g1 : decide ((x : Int) ≤ a) = false := by simp; omega
  have q1 := hg
  clear hg
  by_cases hg : b < 0
  · have g2 : decide (b < 0) = true := by simp [hg]
    have HR : Hid (innB t ls x = false) := by
      show _ = _
      rw [Bool.eq_false_iff]
      intro hh
      obtain ⟨⟨⟨k1, k2⟩, ⟨k3, k4⟩, k5⟩, ⟨k6, k7, k8⟩, k9, k10⟩ := HL.out.1 hh
      omega
    clear hg
    generalize A.l.o = lo at *
    generalize A.r.o = ro at *
    generalize A.p.o = po at *
    generalize A.h.o = ho at *
    generalize A.s.o = so at *
    subst e1 e2 e3 e4 e5
    go_enter Tryz.func93, Tryz.ntmps93
    go_wp2_with fail
    go_quiet (fail)
    go_wp2_with fail
    go_ret
    exact ⟨ret_bool HR.out.symm, by repeat (first | exact HW.out | apply bel_drewN)⟩
  have g2 : decide (b < 0) = false := by simp; omega
  have q2 := hg
  clear hg
  by_cases hg : (x : Int) ≤ b
  · have g3 : decide ((x : Int) ≤ b) = true := by simp [hg]
    have HR : Hid (innB t ls x = false) := by
      show _ = _
      rw [Bool.eq_false_iff]
      intro hh
      obtain ⟨⟨⟨k1, k2⟩, ⟨k3, k4⟩, k5⟩, ⟨k6, k7, k8⟩, k9, k10⟩ := HL.out.1 hh
      omega
    clear hg
    generalize A.l.o = lo at *
    generalize A.r.o = ro at *
    generalize A.p.o = po at *
    generalize A.h.o = ho at *
    generalize A.s.o = so at *
    subst e1 e2 e3 e4 e5
    go_enter Tryz.func93, Tryz.ntmps93
    go_wp2_with fail
    go_quiet (fail)
    go_wp2_with fail
    go_ret
    exact ⟨ret_bool HR.out.symm, by repeat (first | exact HW.out | apply bel_drewN)⟩
  have g3 : decide ((x : Int) ≤ b) = false := by simp; omega
  have q3 := hg
  clear hg
  by_cases hg : a = b
  · have g4 : (a == b) = true := by simp [hg]
    have HR : Hid (innB t ls x = false) := by
      show _ = _
      rw [Bool.eq_false_iff]
      intro hh
      obtain ⟨⟨⟨k1, k2⟩, ⟨k3, k4⟩, k5⟩, ⟨k6, k7, k8⟩, k9, k10⟩ := HL.out.1 hh
      exact k5 hg
    clear hg
    generalize A.l.o = lo at *
    generalize A.r.o = ro at *
    generalize A.p.o = po at *
    generalize A.h.o = ho at *
    generalize A.s.o = so at *
    subst e1 e2 e3 e4 e5
    go_enter Tryz.func93, Tryz.ntmps93
    go_wp2_with fail
    go_quiet (fail)
    go_wp2_with fail
    go_ret
    exact ⟨ret_bool HR.out.symm, by repeat (first | exact HW.out | apply bel_drewN)⟩
  have g4 : (a == b) = false := by simp [hg]
  have q4 := hg
  clear hg
  obtain ⟨la, rfl⟩ := Int.eq_ofNat_of_zero_le (show 0 ≤ a by omega)
  obtain ⟨ra, rfl⟩ := Int.eq_ofNat_of_zero_le (show 0 ≤ b by omega)
  have hla : la < x := by omega
  have hra : ra < x := by omega
  clear q0 q1 q2 q3
  have Q4 := Lib.hid q4
  clear q4
  simp only [Int.toNat_natCast] at HL
  obtain ⟨_, p1⟩ := HT2.out.p.get (i := la) (by omega)
  obtain ⟨_, p2⟩ := HT2.out.p.get (i := ra) (by omega)
  obtain ⟨_, s2⟩ := HT2.out.s.get (i := la) (by have := HL5.out; omega)
  obtain ⟨_, s3⟩ := HT2.out.s.get (i := ra) (by have := HL5.out; omega)
  have m1 := HLS.out la hla
  have m2 := HLS.out ra hra
  have y1 : (la : Int) < (t.par.length : Int) := by omega
  have y2 : (ra : Int) < (t.par.length : Int) := by omega
  have y3 : (la : Int) < (m : Int) := by omega
  have y4 : (ra : Int) < (m : Int) := by omega
  have y5 : (la : Int) < (t.siz.length : Int) := by omega
  have y6 : (ra : Int) < (t.siz.length : Int) := by omega
  have y7 : (0 : Int) ≤ (la : Int) := by omega
  have y8 : (0 : Int) ≤ (ra : Int) := by omega
  generalize gi t.par la = pa at *
  generalize gi t.par ra = pb at *
  generalize ls.getD la 0 = ma at *
  generalize ls.getD ra 0 = mb at *
  generalize gi t.siz x = sx at *
  generalize gi t.siz la = sa at *
  generalize gi t.siz ra = sb at *
  obtain ⟨sw, HSW⟩ : ∃ sw, Hid (IntKind.i64.wrap (sa + sb) = sw) := ⟨_, rfl⟩
  rw [HSW.out] at HL
  have hsw := HSW.out
  by_cases hg : pa ≠ x
  · have g5 : (pa != (x : Int)) = true := by simp [hg]
    have HR : Hid (innB t ls x = false) := by
      show _ = _
      rw [Bool.eq_false_iff]
      intro hh
      obtain ⟨⟨⟨k1, k2⟩, ⟨k3, k4⟩, k5⟩, ⟨k6, k7, k8⟩, k9, k10⟩ := HL.out.1 hh
      exact hg k6
    clear hg
    generalize A.l.o = lo at *
    generalize A.r.o = ro at *
    generalize A.p.o = po at *
    generalize A.h.o = ho at *
    generalize A.s.o = so at *
    subst e1 e2 e3 e4 e5
    go_enter Tryz.func93, Tryz.ntmps93
    go_wp2_with fail
    go_quiet (fail)
    go_wp2_with fail
    go_quiet (fail)
    go_wp2_with fail
    go_ret
    exact ⟨ret_bool HR.out.symm, by repeat (first | exact HW.out | apply bel_drewN)⟩
  have g5 : (pa != (x : Int)) = false := by simp; omega
  have Q5 := Lib.hid hg
  clear hg
  by_cases hg : pb ≠ x
  · have g6 : (pb != (x : Int)) = true := by simp [hg]
    have HR : Hid (innB t ls x = false) := by
      show _ = _
      rw [Bool.eq_false_iff]
      intro hh
      obtain ⟨⟨⟨k1, k2⟩, ⟨k3, k4⟩, k5⟩, ⟨k6, k7, k8⟩, k9, k10⟩ := HL.out.1 hh
      exact hg k7
    clear hg
    generalize A.l.o = lo at *
    generalize A.r.o = ro at *
    generalize A.p.o = po at *
    generalize A.h.o = ho at *
    generalize A.s.o = so at *
    subst e1 e2 e3 e4 e5
    go_enter Tryz.func93, Tryz.ntmps93
    go_wp2_with fail
    go_quiet (fail)
    go_wp2_with fail
    go_quiet (fail)
    go_wp2_with fail
    go_ret
    exact ⟨ret_bool HR.out.symm, by repeat (first | exact HW.out | apply bel_drewN)⟩
  have g6 : (pb != (x : Int)) = false := by simp; omega
  have Q6 := Lib.hid hg
  clear hg
  by_cases hg : mb ≤ ma
  · have g7 : decide (mb ≤ ma) = true := by simp [hg]
    have HR : Hid (innB t ls x = false) := by
      show _ = _
      rw [Bool.eq_false_iff]
      intro hh
      obtain ⟨⟨⟨k1, k2⟩, ⟨k3, k4⟩, k5⟩, ⟨k6, k7, k8⟩, k9, k10⟩ := HL.out.1 hh
      omega
    have g7x : decide ((mb : Int) ≤ (ma : Int)) = true := by simp; omega
    clear hg
    generalize A.l.o = lo at *
    generalize A.r.o = ro at *
    generalize A.p.o = po at *
    generalize A.h.o = ho at *
    generalize A.s.o = so at *
    subst e1 e2 e3 e4 e5
    go_enter Tryz.func93, Tryz.ntmps93
    go_wp2_with fail
    go_quiet (fail)
    go_wp2_with fail
    go_quiet (fail)
    go_wp2_with fail
    go_ret
    exact ⟨ret_bool HR.out.symm, by repeat (first | exact HW.out | apply bel_drewN)⟩
  have g7 : decide (mb ≤ ma) = false := by simp; omega
  have g7x : decide ((mb : Int) ≤ (ma : Int)) = false := by simp; omega
  have Q7 := Lib.hid hg
  clear hg
  by_cases hg : sx ≠ sw
  · have g8 : (sx != sw) = true := by simp [hg]
    have HR : Hid (innB t ls x = false) := by
      show _ = _
      rw [Bool.eq_false_iff]
      intro hh
      obtain ⟨⟨⟨k1, k2⟩, ⟨k3, k4⟩, k5⟩, ⟨k6, k7, k8⟩, k9, k10⟩ := HL.out.1 hh
      exact hg k9
    clear hg
    generalize A.l.o = lo at *
    generalize A.r.o = ro at *
    generalize A.p.o = po at *
    generalize A.h.o = ho at *
    generalize A.s.o = so at *
    subst e1 e2 e3 e4 e5
    go_enter Tryz.func93, Tryz.ntmps93
    go_wp2_with fail
    go_quiet (fail)
    go_wp2_with fail
    go_quiet (fail)
    go_wp2_with fail
    go_quiet (fail)
    go_wp2_with fail
    go_ret
    exact ⟨ret_bool HR.out.symm, by repeat (first | exact HW.out | apply bel_drewN)⟩
  have g8 : (sx != sw) = false := by simp; omega
  have Q8 := Lib.hid hg
  clear hg
  by_cases hg : (x : Int) = t.lv
  · have g9 : ((x : Int) == t.lv) = true := by simp [hg]
    have HR : Hid (innB t ls x = true) := by
      show _ = _
      refine HL.out.2 ?_
      have k4 := Q4.out
      have k5 := Q5.out
      have k6 := Q6.out
      have k7 := Q7.out
      have k8 := Q8.out
      exact ⟨⟨⟨by omega, by omega⟩, ⟨by omega, by omega⟩, by omega⟩, ⟨by omega, by omega, by omega⟩, by omega, .inl hg⟩
    clear hg
    generalize A.l.o = lo at *
    generalize A.r.o = ro at *
    generalize A.p.o = po at *
    generalize A.h.o = ho at *
    generalize A.s.o = so at *
    subst e1 e2 e3 e4 e5
    go_enter Tryz.func93, Tryz.ntmps93
    go_wp2_with fail
    go_quiet (fail)
    go_wp2_with fail
    go_quiet (fail)
    go_wp2_with fail
    go_quiet (fail)
    go_wp2_with fail
    go_quiet (fail)
    go_wp2_with fail
    go_ret
    exact ⟨ret_bool HR.out.symm, by repeat (first | exact HW.out | apply bel_drewN)⟩
  · have g9 : ((x : Int) == t.lv) = false := by simp [hg]
    obtain ⟨x', hx'⟩ : ∃ x', x = x' + 1 := ⟨x - 1, by omega⟩
    obtain ⟨_, h2⟩ := HT2.out.h.get (i := x') (by have := HL4.out; omega)
    have w1 : IntKind.i64.wrap ((x : Int) - 1) = (x' : Int) := by rw [Go.IntWalk.i64_in _ (by omega)]; omega
    have y10 : (0 : Int) ≤ (x' : Int) := by omega
    have y9 : (x' : Int) < (t.hgt.length : Int) := by omega
    have HR : Hid (innB t ls x = decide (gi t.hgt x' ≤ gi t.hgt x)) := by
      show _ = _
      rw [Bool.eq_iff_iff, HL.out]
      simp only [decide_eq_true_eq]
      have k4 := Q4.out
      have k5 := Q5.out
      have k6 := Q6.out
      have k7 := Q7.out
      have k8 := Q8.out
      constructor
      · rintro ⟨_, _, _, h | h⟩
        · exact absurd h hg
        · rw [hx', Nat.add_sub_cancel, ← hx'] at h; exact h
      · intro h
        exact ⟨⟨⟨by omega, by omega⟩, ⟨by omega, by omega⟩, by omega⟩, ⟨by omega, by omega, by omega⟩, by omega, .inr (by rw [hx', Nat.add_sub_cancel, ← hx']; exact h)⟩
    have HG := Lib.hid hg
    clear hg
    have HX' := Lib.hid hx'
    clear hx'
    generalize gi t.hgt x' = hq at *
    generalize gi t.hgt x = hp at *
    generalize A.l.o = lo at *
    generalize A.r.o = ro at *
    generalize A.p.o = po at *
    generalize A.h.o = ho at *
    generalize A.s.o = so at *
    subst e1 e2 e3 e4 e5
    go_enter Tryz.func93, Tryz.ntmps93
    go_wp2_with fail
    go_quiet (fail)
    go_wp2_with fail
    go_quiet (fail)
    go_wp2_with fail
    go_quiet (fail)
    go_wp2_with fail
    go_quiet (fail)
    go_wp2_with fail
    go_ret
    exact ⟨ret_bool HR.out.symm, by repeat (first | exact HW.out | apply bel_drewN)⟩

end Go.Proofs.YthacjealoomioaaGreatDoor

/- recon.leasts: its conditions. -/
namespace Go.Proofs.YthacjealoomioaaGreatDoor
set_option linter.unusedVariables false
set_option linter.unusedSimpArgs false
open Go.RowKit

set_option maxHeartbeats 1000000 in
set_option maxRecDepth 100000 in
theorem cond1_ok (w : World) (A : TA) (t : Tr) (tb : Nat) (hb : TBox w tb A t) (ht : TreeAt w A t) (hl : LensOk t) (x : Nat) (hx : x < t.par.length) :
    Calls Tryz.prog 90 #[.int .i64 x, .pointer (some ⟨tb, 0, none⟩)] w (RetB (.bool (decide (t.lv ≤ x ∨ LeafAt t x))) w) := by
  have HT := Lib.hid ht
  have HL := Lib.hid hl
  have hx1 := ht.ln.2.2.1
  have c0 := hb.c0
  have c1 := hb.c1
  have c2 := hb.c2
  have c3 := hb.c3
  have c4 := hb.c4
  have c5 := hb.c5
  obtain ⟨k1, k2⟩ := ht.lw
  clear hb ht hl
  by_cases hlv : t.lv ≤ x
  · have t1 : decide (t.lv ≤ (x : Int)) = true := by simp [hlv]
    have HR : Hid (decide (t.lv ≤ x ∨ LeafAt t x) = true) := by show _ = _; rw [decide_eq_true_eq]; exact .inl hlv
    clear hlv
    go_enter Tryz.func90, Tryz.ntmps90
    go_wp2_with fail
    go_ret
    exact ⟨ret_bool HR.out.symm, Below.refl _ _⟩
  · have t1 : decide (t.lv ≤ (x : Int)) = false := by simp; omega
    have HR : Hid (decide (t.lv ≤ x ∨ LeafAt t x) = leafB t x) := by
      show _ = _
      rw [Bool.eq_iff_iff]
      unfold leafB
      simp only [decide_eq_true_eq]
      exact ⟨fun h => h.resolve_left hlv, .inr⟩
    clear hlv
    go_enter Tryz.func90, Tryz.ntmps90
    go_wp2_with fail
    obtain ⟨q1, q2, q3, q4⟩ := HL.out
    with_reducible refine (leaf_ok w A t HT.out x (by omega) (by omega) (by omega) (by omega)).mono ?_
    rintro e w' ⟨rfl, hb'⟩
    have HB := Lib.hid hb'
    clear hb' q1 q2 q3 q4
    go_wp2_with fail
    go_ret
    exact ⟨ret_bool HR.out.symm, HB.out⟩

set_option maxHeartbeats 1000000 in
set_option maxRecDepth 100000 in
theorem cond2_ok (w : World) (A : TA) (t : Tr) (tb lp lb m : Nat) (hb : TBox w tb A t) (ht : TreeAt w A t) (hl : LensOk t) (h0 : 0 ≤ t.lv) (x : Nat) (hx : x < t.par.length) (hxm : x < m) (hm : m ≤ 9223372036854775807)
    (hp : w.cell? ⟨lp, 0, none⟩ = some (.slice (some ⟨lb, 0, none⟩) m m)) (ls : List Nat) (hls : ∀ y, y < x → w.cell? ⟨lb, y, none⟩ = some (.int .i64 ((ls.getD y 0 : Nat) : Int))) :
    Calls Tryz.prog 92 #[.int .i64 x, .pointer (some ⟨tb, 0, none⟩), .pointer (some ⟨lp, 0, none⟩)] w (RetB (.bool (decide ((x : Int) < t.lv ∨ InnAt t ls x))) w) := by
  have HT := Lib.hid ht
  have HL := Lib.hid hl
  have HLS := Lib.hid hls
  have H0 := Lib.hid h0
  have hx1 := ht.ln.2.2.1
  have c0 := hb.c0
  have c1 := hb.c1
  have c2 := hb.c2
  have c3 := hb.c3
  have c4 := hb.c4
  have c5 := hb.c5
  obtain ⟨k1, k2⟩ := ht.lw
  clear hb ht hl hls
  by_cases hlv : (x : Int) < t.lv
  · have t1 : decide ((x : Int) < t.lv) = true := by simp [hlv]
    have HR : Hid (decide ((x : Int) < t.lv ∨ InnAt t ls x) = true) := by show _ = _; rw [decide_eq_true_eq]; exact .inl hlv
    clear hlv h0
    go_enter Tryz.func92, Tryz.ntmps92
    go_wp2_with fail
    go_ret
    exact ⟨ret_bool HR.out.symm, Below.refl _ _⟩
  · have t1 : decide ((x : Int) < t.lv) = false := by simp; omega
    have HV : Hid (t.lv ≤ x) := by show _ ≤ _; omega
    have HR : Hid (decide ((x : Int) < t.lv ∨ InnAt t ls x) = innB t ls x) := by
      show _ = _
      rw [Bool.eq_iff_iff]
      unfold innB
      simp only [decide_eq_true_eq]
      exact ⟨fun h => h.resolve_left hlv, .inr⟩
    clear hlv h0
    go_enter Tryz.func92, Tryz.ntmps92
    go_wp2_with fail
    with_reducible refine (inner_ok w A t HT.out HL.out x hx H0.out HV.out ls lb m hxm hm HLS.out).mono ?_
    rintro e w' ⟨rfl, hb'⟩
    have HB := Lib.hid hb'
    clear hb'
    go_wp2_with fail
    go_ret
    exact ⟨ret_bool HR.out.symm, HB.out⟩

set_option maxHeartbeats 1000000 in
set_option maxRecDepth 100000 in
theorem cond3_ok (w : World) (A : TA) (t : Tr) (tb : Nat) (hb : TBox w tb A t) (ht : TreeAt w A t) (hl : LensOk t) (x : Nat) (hx : x < t.par.length) :
    Calls Tryz.prog 94 #[.int .i64 x, .pointer (some ⟨tb, 0, none⟩)] w (RetB (.bool (belB t x)) w) := by
  have HT := Lib.hid ht
  have HL := Lib.hid hl
  have c0 := hb.c0
  have c1 := hb.c1
  have c2 := hb.c2
  have c3 := hb.c3
  have c4 := hb.c4
  have c5 := hb.c5
  clear hb ht hl
  go_enter Tryz.func94, Tryz.ntmps94
  go_wp2_with fail
  with_reducible refine (below_ok w A t HT.out HL.out x hx).mono ?_
  rintro e w' ⟨rfl, hb'⟩
  have HB := Lib.hid hb'
  clear hb'
  go_wp2_with fail
  go_ret
  exact ⟨rfl, HB.out⟩

/-- What 'holds' reads. -/
structure LsEnv (w : World) (A : TA) (t : Tr) (tb cb sb lp lb m : Nat) : Prop where
  box : TBox w tb A t
  tree : TreeAt w A t
  c : Blk w cb 150 [.slice (some ⟨sb, 0, none⟩) 3 3]
  s : Blk w sb 148 [.func (.func 90) #[] #[.pointer (some ⟨tb, 0, none⟩)], .func (.func 92) #[] #[.pointer (some ⟨tb, 0, none⟩), .pointer (some ⟨lp, 0, none⟩)], .func (.func 94) #[] #[.pointer (some ⟨tb, 0, none⟩)]]
  p : Blk w lp 24 [.slice (some ⟨lb, 0, none⟩) m m]

theorem LsEnv.mod {F : Nat → Prop} {w w' : World} {A : TA} {t : Tr} {tb cb sb lp lb m : Nat} (h : LsEnv w A t tb cb sb lp lb m) (hm : Mod F w w') (hA : ∀ k, A.has t k → ¬ F k) (h1 : ¬ F tb) (h2 : ¬ F cb) (h3 : ¬ F sb) (h4 : ¬ F lp) : LsEnv w' A t tb cb sb lp lb m :=
  ⟨Blk.mod h.box hm h1, h.tree.mod hm hA, h.c.mod hm h2, h.s.mod hm h3, h.p.mod hm h4⟩

theorem LsEnv.below {w w' : World} {A : TA} {t : Tr} {tb cb sb lp lb m : Nat} (h : LsEnv w A t tb cb sb lp lb m) (hb : Below w.heap.size w w') : LsEnv w' A t tb cb sb lp lb m :=
  h.mod (Mod.of_below (F := fun _ => False) hb) (fun _ _ e => e) id id id id

def okB (t : Tr) (ls : List Nat) (x : Nat) : Bool := decide (OkAt t ls x)
theorem okB_eq (t : Tr) (ls : List Nat) (x : Nat) : okB t ls x = (decide (t.lv ≤ x ∨ LeafAt t x) && (decide ((x : Int) < t.lv ∨ InnAt t ls x) && belB t x)) := by
  unfold okB OkAt belB
  rw [Bool.eq_iff_iff]
  simp only [Bool.and_eq_true, decide_eq_true_eq]
  exact decide_eq_true_iff

set_option maxHeartbeats 4000000 in
set_option maxRecDepth 100000 in
theorem holds_ok (w : World) (A : TA) (t : Tr) (tb cb sb lp lb m : Nat) (he : LsEnv w A t tb cb sb lp lb m) (hl : LensOk t) (h0 : 0 ≤ t.lv) (x : Nat) (hx : x < t.par.length) (hxm : x < m) (hm : m ≤ 9223372036854775807)
    (ls : List Nat) (hls : ∀ y, y < x → w.cell? ⟨lb, y, none⟩ = some (.int .i64 ((ls.getD y 0 : Nat) : Int))) :
    Calls Tryz.prog 96 #[.int .i64 x, .pointer (some ⟨cb, 0, none⟩)] w (RetB (.bool (okB t ls x)) w) := by
  have HE := Lib.hid he
  have HL := Lib.hid hl
  have HLS := Lib.hid hls
  have H0 := Lib.hid h0
  have HV := Lib.hid (okB_eq t ls x)
  have c0 := he.c.cell (i := 0) rfl
  clear he hl hls h0
  generalize okB t ls x = R at *
  obtain ⟨v1, HV1⟩ : ∃ v, Hid (decide (t.lv ≤ x ∨ LeafAt t x) = v) := ⟨_, rfl⟩
  obtain ⟨v2, HV2⟩ : ∃ v, Hid (decide ((x : Int) < t.lv ∨ InnAt t ls x) = v) := ⟨_, rfl⟩
  obtain ⟨v3, HV3⟩ : ∃ v, Hid (belB t x = v) := ⟨_, rfl⟩
  have HVV : Hid (R = (v1 && (v2 && v3))) := by show _ = _; rw [← HV1.out, ← HV2.out, ← HV3.out]; exact HV.out
  clear HV
  go_enter Tryz.func96, Tryz.ntmps96
  go_wp2_with fail
  go_loopw [8] (fun s wr => ∃ i : Nat, i ≤ 3 ∧ s = .int .i64 i ∧ Below w.heap.size w wr ∧ (0 < i → v1 = true) ∧ (1 < i → v2 = true) ∧ (2 < i → v3 = true)) (fun s _ => 3 - (intOf s).toNat)
  case atStart => exact ⟨0, by omega, rfl, Below.refl _ _, by omega, by omega, by omega⟩
  case round =>
    obtain ⟨i, hi, rfl, hb, g1, g2, g3⟩ := hrel
    have HB := Lib.hid hb
    have HE2 := Lib.hid (HE.out.below hb)
    have HLS2 : Hid (∀ y, y < x → wr.cell? ⟨lb, y, none⟩ = some (.int .i64 ((ls.getD y 0 : Nat) : Int))) := fun y hy => (hb.cell (World.block_lt_of_cell? w _ (HLS.out y hy))).trans (HLS.out y hy)
    have G1 := Lib.hid g1
    have G2 := Lib.hid g2
    have G3 := Lib.hid g3
    have s0 := HE2.out.s.cell (i := 0) rfl
    have s1 := HE2.out.s.cell (i := 1) rfl
    have s2 := HE2.out.s.cell (i := 2) rfl
    clear hb g1 g2 g3 c0
    have hi4 : i = 0 ∨ i = 1 ∨ i = 2 ∨ i = 3 := by omega
    rcases hi4 with rfl | rfl | rfl | rfl
    · go_wp2_with fail
      with_reducible refine (cond1_ok wr A t tb HE2.out.box HE2.out.tree HL.out x hx).mono ?_
      rintro e w' ⟨rfl, hb'⟩
      have HB' := Lib.hid (bel_then HB.out hb')
      clear hb'
      rw [HV1.out]
      cases v1 with
      | false =>
        go_wp2_with fail
        go_ret
        exact ⟨ret_bool (by rw [HVV.out]; rfl), HB'.out⟩
      | true =>
        go_wp2_with fail
        go_roundw
        case rel => exact ⟨1, by omega, rfl, HB'.out, fun _ => by trivial, by omega, by omega⟩
        case measure => simp [intOf]
    · go_wp2_with fail
      with_reducible refine (cond2_ok wr A t tb lp lb m HE2.out.box HE2.out.tree HL.out H0.out x hx hxm hm (HE2.out.p.cell (i := 0) rfl) ls HLS2.out).mono ?_
      rintro e w' ⟨rfl, hb'⟩
      have HB' := Lib.hid (bel_then HB.out hb')
      clear hb'
      rw [HV2.out]
      cases v2 with
      | false =>
        go_wp2_with fail
        go_ret
        exact ⟨ret_bool (by rw [HVV.out]; simp), HB'.out⟩
      | true =>
        go_wp2_with fail
        go_roundw
        case rel => exact ⟨2, by omega, rfl, HB'.out, fun _ => G1.out (by omega), fun _ => by trivial, by omega⟩
        case measure => simp [intOf]
    · go_wp2_with fail
      with_reducible refine (cond3_ok wr A t tb HE2.out.box HE2.out.tree HL.out x hx).mono ?_
      rintro e w' ⟨rfl, hb'⟩
      have HB' := Lib.hid (bel_then HB.out hb')
      clear hb'
      rw [HV3.out]
      cases v3 with
      | false =>
        go_wp2_with fail
        go_ret
        exact ⟨ret_bool (by rw [HVV.out]; simp), HB'.out⟩
      | true =>
        go_wp2_with fail
        go_roundw
        case rel => exact ⟨3, by omega, rfl, HB'.out, fun _ => G1.out (by omega), fun _ => G2.out (by omega), fun _ => by trivial⟩
        case measure => simp [intOf]
    · have r1 := G1.out (by omega)
      have r2 := G2.out (by omega)
      have r3 := G3.out (by omega)
      have HF : Hid (R = true) := by show _ = _; rw [HVV.out, r1, r2, r3]; rfl
      clear r1 r2 r3
      go_wp2_with fail
      go_ret
      exact ⟨ret_bool HF.out.symm, HB.out⟩

end Go.Proofs.YthacjealoomioaaGreatDoor

/- recon.leasts. -/
namespace Go.Proofs.YthacjealoomioaaGreatDoor
set_option linter.unusedVariables false
set_option linter.unusedSimpArgs false
open Go.RowKit

/-- What leasts returns. -/
structure LsPost (w : World) (t : Tr) (e : Ending) (w' : World) : Prop where
  bad : lsL t = none → e = .returned (.tuple #[.slice none 0 0, .bool false])
  ok : ∀ ls, lsL t = some ls → ∃ lb, e = .returned (.tuple #[.slice (some ⟨lb, 0, none⟩) ls.length ls.length, .bool true]) ∧ Blk w' lb 3 (natV ls) ∧ w.heap.size ≤ lb
  bel : Below w.heap.size w w'

theorem LsPost.no {w w' : World} {t : Tr} (h : lsL t = none) (hb : Below w.heap.size w w') : LsPost w t (.returned (.tuple #[.slice none 0 0, .bool false])) w' :=
  ⟨fun _ => rfl, fun ls e => by (rw [h] at e; cases e), hb⟩

theorem head_no {t : Tr} (h : ¬ HeadOk t) : lsL t = none := lsL_none (.inl h)

/-- A row being filled: numbers up to x, zeros behind. -/
def lsZ (t : Tr) (m x : Nat) : List Nat := lowF t x ++ List.replicate (m - x) 0

theorem lsZ_len {t : Tr} {m x : Nat} (h : x ≤ m) : (lsZ t m x).length = m := by unfold lsZ; rw [List.length_append, lowF_len, List.length_replicate]; omega
theorem lsZ_at {t : Tr} {m x y : Nat} (h : y < x) : (lsZ t m x).getD y 0 = (lowF t x).getD y 0 := by unfold lsZ; rw [getD_app_left (by rw [lowF_len]; exact h)]
theorem lsZ_set {t : Tr} {m x : Nat} (h : x < m) (v : Nat) (hv : v = lsNext t (lowF t x) x) : (lsZ t m x).set x v = lsZ t m (x + 1) := by
  unfold lsZ
  rw [lowF, List.set_append_right _ _ (by rw [lowF_len]; exact Nat.le_refl _), lowF_len, Nat.sub_self, show m - x = (m - (x + 1)) + 1 by omega, List.replicate_succ, List.set_cons_zero, hv, List.append_assoc]
  rfl
theorem lsZ_end {t : Tr} {m : Nat} : lsZ t m m = lowF t m := by unfold lsZ; rw [Nat.sub_self]; simp

set_option maxHeartbeats 8000000 in
set_option maxRecDepth 100000 in
theorem leasts_ok (w : World) (A : TA) (t : Tr) (ht : TreeAt w A t) : Calls Tryz.prog 59 #[A.agg t] w (LsPost w t) := by
  have HT := Lib.hid ht
  have HB := Lib.hid (TBox.new w A t)
  have HW := Lib.hid (bel_alloc w (.cells #[.int .i64 t.lv, .slice A.l.o t.left.length A.l.c, .slice A.r.o t.right.length A.r.c, .slice A.p.o t.par.length A.p.c, .slice A.h.o t.hgt.length A.h.c, .slice A.s.o t.siz.length A.s.c] 27))
  have c0 := HB.out.c0
  have c1 := HB.out.c1
  have c2 := HB.out.c2
  have c3 := HB.out.c3
  have c4 := HB.out.c4
  have c5 := HB.out.c5
  obtain ⟨ln1, ln2, ln3, ln4, ln5⟩ := ht.ln
  obtain ⟨k1, k2⟩ := ht.lw
  clear ht
  show Calls _ _ #[.agg #[.int .i64 t.lv, .slice A.l.o t.left.length A.l.c, .slice A.r.o t.right.length A.r.c, .slice A.p.o t.par.length A.p.c, .slice A.h.o t.hgt.length A.h.c, .slice A.s.o t.siz.length A.s.c]] _ _
  have hsz : w.heap.size < (w.alloc (.cells #[.int .i64 t.lv, .slice A.l.o t.left.length A.l.c, .slice A.r.o t.right.length A.r.c, .slice A.p.o t.par.length A.p.c, .slice A.h.o t.hgt.length A.h.c, .slice A.s.o t.siz.length A.s.c] 27)).heap.size := by simp
  generalize hlo : A.l.o = lo at *
  have HLO := Lib.hid hlo
  clear hlo
  have hno : ¬ HeadOk t → Hid (LsPost w t (.returned (.tuple #[.slice none 0 0, .bool false])) (w.alloc (.cells #[.int .i64 t.lv, .slice lo t.left.length A.l.c, .slice A.r.o t.right.length A.r.c, .slice A.p.o t.par.length A.p.c, .slice A.h.o t.hgt.length A.h.c, .slice A.s.o t.siz.length A.s.c] 27))) := fun h => LsPost.no (head_no h) HW.out
  by_cases h1 : t.lv < 0
  · have t1 : decide (t.lv < 0) = true := by simp [h1]
    have HF := hno (by rintro ⟨⟨h, _⟩, _⟩; omega)
    clear h1 hno
    go_enter Tryz.func59, Tryz.ntmps59
    go_wp2_with fail
    go_ret2
    exact HF.out
  have t1 : decide (t.lv < 0) = false := by simp; omega
  by_cases h2 : 4096 < t.lv
  · have t2 : decide (4096 < t.lv) = true := by simp [h2]
    have HF := hno (by rintro ⟨⟨_, h, _⟩, _⟩; omega)
    clear h1 h2 hno
    go_enter Tryz.func59, Tryz.ntmps59
    go_wp2_with fail
    go_ret2
    exact HF.out
  have t2 : decide (4096 < t.lv) = false := by simp; omega
  by_cases h3 : (t.par.length : Int) < t.lv
  · have t3 : decide ((t.par.length : Int) < t.lv) = true := by simp [h3]
    have HF := hno (by rintro ⟨⟨_, _, h, _⟩, _⟩; omega)
    clear h1 h2 h3 hno
    go_enter Tryz.func59, Tryz.ntmps59
    go_wp2_with fail
    go_ret2
    exact HF.out
  have t3 : decide ((t.par.length : Int) < t.lv) = false := by simp; omega
  by_cases h4 : 2 * t.lv < (t.par.length : Int)
  · have t4 : decide (2 * t.lv < (t.par.length : Int)) = true := by simp [h4]
    have HF := hno (by rintro ⟨⟨_, _, _, h⟩, _⟩; omega)
    have b1 : 0 ≤ t.lv := by omega
    have b2 : t.lv ≤ 4096 := by omega
    clear h1 h2 h3 h4 hno
    go_enter Tryz.func59, Tryz.ntmps59
    go_wp2_with fail
    go_ret2
    exact HF.out
  have t4 : decide (2 * t.lv < (t.par.length : Int)) = false := by simp; omega
  have b1 : 0 ≤ t.lv := by omega
  have b2 : t.lv ≤ 4096 := by omega
  have b3 : t.par.length ≤ 8192 := by omega
  have HH : Hid (LensOk t → HeadOk t) := fun h => ⟨⟨by omega, by omega, by omega, by omega⟩, h⟩
  clear h1 h2 h3 h4
  by_cases h5 : t.left.length ≠ t.par.length
  · have t5 : ((t.left.length : Int) != (t.par.length : Int)) = true := by simp; omega
    have HF := hno (by rintro ⟨_, h, _⟩; exact h5 h)
    clear h5 hno
    go_enter Tryz.func59, Tryz.ntmps59
    go_wp2_with fail
    go_ret2
    exact HF.out
  replace h5 := Classical.not_not.1 h5
  have t5 : ((t.left.length : Int) != (t.par.length : Int)) = false := by simp; omega
  by_cases h6 : t.right.length ≠ t.par.length
  · have t6 : ((t.right.length : Int) != (t.par.length : Int)) = true := by simp; omega
    have HF := hno (by rintro ⟨_, _, h, _⟩; exact h6 h)
    clear h5 h6 hno
    go_enter Tryz.func59, Tryz.ntmps59
    go_wp2_with fail
    go_ret2
    exact HF.out
  replace h6 := Classical.not_not.1 h6
  have t6 : ((t.right.length : Int) != (t.par.length : Int)) = false := by simp; omega
  by_cases h7 : t.hgt.length ≠ t.par.length
  · have t7 : ((t.hgt.length : Int) != (t.par.length : Int)) = true := by simp; omega
    have HF := hno (by rintro ⟨_, _, _, h, _⟩; exact h7 h)
    clear h5 h6 h7 hno
    go_enter Tryz.func59, Tryz.ntmps59
    go_wp2_with fail
    go_ret2
    exact HF.out
  replace h7 := Classical.not_not.1 h7
  have t7 : ((t.hgt.length : Int) != (t.par.length : Int)) = false := by simp; omega
  by_cases h8 : t.siz.length ≠ t.par.length
  · have t8 : ((t.siz.length : Int) != (t.par.length : Int)) = true := by simp; omega
    have HF := hno (by rintro ⟨_, _, _, _, h⟩; exact h8 h)
    clear h5 h6 h7 h8 hno
    go_enter Tryz.func59, Tryz.ntmps59
    go_wp2_with fail
    go_ret2
    exact HF.out
  replace h8 := Classical.not_not.1 h8
  have t8 : ((t.siz.length : Int) != (t.par.length : Int)) = false := by simp; omega
  have HL : Hid (LensOk t) := ⟨h5, h6, h7, h8⟩
  clear h5 h6 h7 h8 hno
  go_enter Tryz.func59, Tryz.ntmps59
  go_wp2_with (at_make; apply keepIt)
  apply Lib.hid
  refine wpList_makeB 3 (.int .i64 0) 8 Tryz.underlying24 Tryz.infoInt rfl _ _ _ _ t.par.length rfl rfl rfl rfl (by omega) (by unfold maxLen; omega) ?_
  intro w2 B2 hb2
  have HB2 := Lib.hid B2
  have HW2 := Lib.hid (bel_then HW.out hb2)
  have HX2 := Lib.hid (Blk.below HB.out hb2 hsz)
  have hs2 := hb2.size
  have hlb := Blk.lt B2
  clear B2 hb2 c0 c1 c2 c3 c4 c5 HB HW t1 t2 t3 t4 t5 t6 t7 t8
  generalize (w.alloc (.cells #[.int .i64 t.lv, .slice lo t.left.length A.l.c, .slice A.r.o t.right.length A.r.c, .slice A.p.o t.par.length A.p.c, .slice A.h.o t.hgt.length A.h.c, .slice A.s.o t.siz.length A.s.c] 27)).heap.size = lb at *
  go_wp2_with fail
  have HE3 : Hid (LsEnv (((w2.alloc (.cells #[.slice (some ⟨lb, 0, none⟩) t.par.length t.par.length] 24)).alloc (.cells #[.func (.func 90) #[] #[.pointer (some ⟨w.heap.size, 0, none⟩)], .func (.func 92) #[] #[.pointer (some ⟨w.heap.size, 0, none⟩), .pointer (some ⟨w2.heap.size, 0, none⟩)], .func (.func 94) #[] #[.pointer (some ⟨w.heap.size, 0, none⟩)]] 148)).alloc (.cells #[.slice (some ⟨w2.heap.size + 1, 0, none⟩) 3 3] 150))
      A t w.heap.size (w2.heap.size + 1 + 1) (w2.heap.size + 1) w2.heap.size lb t.par.length) := by
    refine ⟨((Blk.alloc HX2.out _).alloc _).alloc _, HT.out.below (((HW2.out.alloc (by omega) _).alloc (by simp; omega) _).alloc (by simp; omega) _), ?_, ?_, ?_⟩
    · exact Blk.new' _ _ _ (by simp)
    · exact (Blk.new' _ _ _ (by simp)).alloc _
    · exact ((Blk.new' _ _ _ rfl).alloc _).alloc _
  have HB3 : Hid (Blk (((w2.alloc (.cells #[.slice (some ⟨lb, 0, none⟩) t.par.length t.par.length] 24)).alloc (.cells #[.func (.func 90) #[] #[.pointer (some ⟨w.heap.size, 0, none⟩)], .func (.func 92) #[] #[.pointer (some ⟨w.heap.size, 0, none⟩), .pointer (some ⟨w2.heap.size, 0, none⟩)], .func (.func 94) #[] #[.pointer (some ⟨w.heap.size, 0, none⟩)]] 148)).alloc (.cells #[.slice (some ⟨w2.heap.size + 1, 0, none⟩) 3 3] 150)) lb 3 (natV (lsZ t t.par.length 0))) := by
    have e : lsZ t t.par.length 0 = List.replicate t.par.length 0 := by unfold lsZ; simp [lowF]
    show Blk _ _ _ _
    rw [e, natV_zero]
    exact ((HB2.out.alloc _).alloc _).alloc _
  have HW3 : Hid (Below w.heap.size w (((w2.alloc (.cells #[.slice (some ⟨lb, 0, none⟩) t.par.length t.par.length] 24)).alloc (.cells #[.func (.func 90) #[] #[.pointer (some ⟨w.heap.size, 0, none⟩)], .func (.func 92) #[] #[.pointer (some ⟨w.heap.size, 0, none⟩), .pointer (some ⟨w2.heap.size, 0, none⟩)], .func (.func 94) #[] #[.pointer (some ⟨w.heap.size, 0, none⟩)]] 148)).alloc (.cells #[.slice (some ⟨w2.heap.size + 1, 0, none⟩) 3 3] 150))) := ((HW2.out.alloc (by omega) _).alloc (by simp; omega) _).alloc (by simp; omega) _
  have HAN : Hid (∀ k, A.has t k → k ≠ lb) := fun k hk => by have := HT.out.lt hk; omega
  clear HB2 HW2 HX2
  generalize (((w2.alloc (.cells #[.slice (some ⟨lb, 0, none⟩) t.par.length t.par.length] 24)).alloc (.cells #[.func (.func 90) #[] #[.pointer (some ⟨w.heap.size, 0, none⟩)], .func (.func 92) #[] #[.pointer (some ⟨w.heap.size, 0, none⟩), .pointer (some ⟨w2.heap.size, 0, none⟩)], .func (.func 94) #[] #[.pointer (some ⟨w.heap.size, 0, none⟩)]] 148)).alloc (.cells #[.slice (some ⟨w2.heap.size + 1, 0, none⟩) 3 3] 150)) = w3 at *
  generalize w2.heap.size = lp at *
  have n1 : w.heap.size ≠ lb := by omega
  have n2 : lp ≠ lb := by omega
  have n3 : lp + 1 ≠ lb := by omega
  have n4 : lp + 1 + 1 ≠ lb := by omega
  go_loopw [67] (fun s wr => ∃ x : Nat, x ≤ t.par.length ∧ s = .int .i64 x ∧ Blk wr lb 3 (natV (lsZ t t.par.length x)) ∧ Mod (fun k => k = lb) w3 wr ∧ ∀ y, y < x → OkAt t (lowF t y) y) (fun s _ => t.par.length - (intOf s).toNat)
  case atStart => exact ⟨0, Nat.zero_le _, rfl, HB3.out, Mod.refl _ _, fun y hy => by omega⟩
  case round =>
    obtain ⟨x, hx, rfl, hb, hm, hok⟩ := hrel
    clear HB3
    have HBR := Lib.hid hb
    have HMR := Lib.hid hm
    have HOK := Lib.hid hok
    have HER := Lib.hid (HE3.out.mod hm HAN.out n1 n4 n3 n2)
    have HWR := Lib.hid (bel_mod HW3.out hm (fun k e => by omega))
    clear hb hm hok
    by_cases hxm : x < t.par.length
    · have p0 := HER.out.p.cell (i := 0) rfl
      have l0 := blkN HBR.out (i := x) (by rw [lsZ_len hx]; exact hxm)
      have f0 := HBR.out.free x
      generalize (lsZ t t.par.length x).getD x 0 = old at *
      have x1 : (x : Int) < (t.par.length : Int) := by omega
      go_wp2_with fail
      have HB4 := Lib.hid (blkN_set HBR.out x x)
      have HM4 := Lib.hid (HMR.out.setCell ⟨lb, x, none⟩ (fun _ => rfl) (.int .i64 (x : Int)))
      have HE4 := Lib.hid (HE3.out.mod HM4.out HAN.out n1 n4 n3 n2)
      have HW4 := Lib.hid (bel_mod HW3.out HM4.out (fun k e => by omega))
      clear p0 l0 f0 HBR HER HWR
      generalize wr.setCell ⟨lb, x, none⟩ (.int .i64 (x : Int)) = w4 at *
      have HLS4 : Hid (∀ y, y < x → w4.cell? ⟨lb, y, none⟩ = some (.int .i64 (((lowF t x).getD y 0 : Nat) : Int))) := fun y hy => by
        have := blkN HB4.out (i := y) (by rw [List.length_set, lsZ_len hx]; omega)
        rw [getD_set_ne (by omega), lsZ_at hy] at this
        exact this
      with_reducible refine (holds_ok w4 A t w.heap.size (lp + 1 + 1) (lp + 1) lp lb t.par.length HE4.out HL.out b1 x hxm hxm (by omega) (lowF t x) HLS4.out).mono ?_
      rintro e w5 ⟨rfl, hb5⟩
      have HB5 := Lib.hid (HB4.out.below hb5 HB4.out.lt)
      have HE5 := Lib.hid (HE4.out.below hb5)
      have HW5 := Lib.hid (bel_then HW4.out hb5)
      have HM5 := Lib.hid (HM4.out.trans (Mod.of_below (F := fun _ => False) hb5) (fun _ _ h => h.elim))
      clear hb5 HB4 HE4 HW4 HLS4 HM4
      by_cases hok : OkAt t (lowF t x) x
      · have HOK2 := Lib.hid hok
        have hB : okB t (lowF t x) x = true := decide_eq_true hok
        rw [hB]
        clear hok hB
        have b0 := HE5.out.box.c0
        by_cases hlv : t.lv ≤ x
        · have t1 : decide (t.lv ≤ (x : Int)) = true := by simp [hlv]
          obtain ⟨⟨⟨i1, i2⟩, _, _⟩, _⟩ : InnAt t (lowF t x) x := HOK2.out.2.1.resolve_left (by omega)
          obtain ⟨e1, l1⟩ := HE5.out.tree.l.get (i := x) (by have := HL.out.1; omega)
          have b1' := HE5.out.box.c1
          have HNX : Hid (lsNext t (lowF t x) x = (lowF t x).getD (gi t.left x).toNat 0) := by show _ = _; unfold lsNext lc; rw [if_neg (by omega)]
          obtain ⟨y, hy⟩ := Int.eq_ofNat_of_zero_le i1
          rw [hy] at i1 i2 l1 HNX
          rw [Int.toNat_natCast] at HNX
          have hyx : y < x := by omega
          have p0 := HE5.out.p.cell (i := 0) rfl
          have ly := blkN HB5.out (i := y) (by rw [List.length_set, lsZ_len hx]; omega)
          rw [getD_set_ne (by omega), lsZ_at hyx, ← HNX.out] at ly
          have fx := HB5.out.free x
          have cx := blkN HB5.out (i := x) (by rw [List.length_set, lsZ_len hx]; omega)
          rw [getD_set_self (by rw [lsZ_len hx]; omega)] at cx
          obtain ⟨nv, HNV⟩ : ∃ nv, Hid (nv = lsNext t (lowF t x) x) := ⟨_, rfl⟩
          rw [← HNV.out] at ly
          have x2 : (x : Int) < (t.left.length : Int) := by have := HL.out.1; omega
          have x3 : (y : Int) < (t.par.length : Int) := by omega
          have x4 : (0 : Int) ≤ (y : Int) := by omega
          clear hlv hy i1 i2
          obtain rfl := HLO.out.symm.trans e1
          rw [e1] at b1'
          clear e1
          have HOK3 : Hid (∀ y, y < x + 1 → OkAt t (lowF t y) y) := fun y hy => by
            by_cases c : y = x
            · subst c; exact HOK2.out
            · exact HOK.out y (by omega)
          go_wp2_with fail
          refine region_tailD 11 (by kernel_rfl) (by kernel_rfl) ?_
          intro w6 hw6
          replace b1' := hw6.cell b1'
          replace l1 := hw6.cell l1
          replace p0 := hw6.cell p0
          replace ly := hw6.cell ly
          replace cx := hw6.cell cx
          replace fx := hw6.frozen fx
          have HB6 := Lib.hid (hw6.blk HB5.out)
          have HM6 := Lib.hid (hw6.mod HM5.out)
          clear hw6 HB5 HM5 b0 HOK2 HE5 HW5
          simp only [List.take_succ_cons, List.take_zero, List.drop_succ_cons, List.drop_zero]
          repeat still_step
          refine wpStill_nil ?_
          go_wp2_with fail
          have HB7 : Hid (Blk (w6.setCell ⟨lb, x, none⟩ (.int .i64 nv)) lb 3 (natV (lsZ t t.par.length (x + 1)))) := by
            have := blkN_set HB6.out x nv
            rw [List.set_set, lsZ_set hxm nv HNV.out] at this
            exact this
          go_roundw
          case rel => exact ⟨x + 1, by omega, by go_num, HB7.out, HM6.out.setCell _ (fun _ => rfl) _, HOK3.out⟩
          case measure => simp [intOf]; omega
        · have t1 : decide (t.lv ≤ (x : Int)) = false := by simp; omega
          have HNX : Hid (x = lsNext t (lowF t x) x) := by show _ = _; unfold lsNext; rw [if_pos (by omega)]
          have HB6 : Hid (Blk w5 lb 3 (natV (lsZ t t.par.length (x + 1)))) := by
            have := HB5.out
            rw [lsZ_set hxm x HNX.out] at this
            exact this
          have HOK3 : Hid (∀ y, y < x + 1 → OkAt t (lowF t y) y) := fun y hy => by
            by_cases c : y = x
            · subst c; exact HOK2.out
            · exact HOK.out y (by omega)
          clear hlv
          go_wp2_with fail
          go_roundw
          case rel => exact ⟨x + 1, by omega, by go_num, HB6.out, HM5.out, HOK3.out⟩
          case measure => simp [intOf]; omega
      · have HN := Lib.hid (lsL_none (t := t) (.inr ⟨x, hxm, hok⟩))
        have hB : okB t (lowF t x) x = false := decide_eq_false hok
        rw [hB]
        clear hok hB
        go_wp2_with fail
        go_ret2
        exact LsPost.no HN.out HW5.out
    · obtain rfl : x = t.par.length := by omega
      have HF := Lib.hid (lsL_iff.2 ⟨HH.out HL.out, rfl, HOK.out⟩)
      have p0 := HER.out.p.cell (i := 0) rfl
      go_wp2_with fail
      go_ret2
      refine ⟨fun e => by (rw [HF.out] at e; cases e), fun ls e => ?_, HWR.out⟩
      rw [HF.out] at e
      injection e with e
      subst e
      refine ⟨lb, by rw [lowF_len]; rfl, ?_, by omega⟩
      have := HBR.out
      rw [lsZ_end] at this
      exact this

end Go.Proofs.YthacjealoomioaaGreatDoor
