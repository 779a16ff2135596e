/- A tree in memory; recon.leaf, recon.below. -/
import Derived.Test.YtenhbfbfkcjimaaDoorZRcK
import Derived.Test.YtenhbfbfkcjimaaDoorZMgB
namespace Go.Proofs.YtenhbfbfkcjimaaDoor
set_option linter.unusedVariables false
set_option linter.unusedSimpArgs false
open Go.RowKit

/-- Where a list lies. -/
structure SA where
  o : Option Addr
  b : Nat
  f : Nat
  c : Nat

/-- Where a tree's lists lie. -/
structure TA where
  l : SA
  r : SA
  p : SA
  h : SA
  s : SA

abbrev TA.cells (A : TA) (t : Tr) : List Value :=
  [.int .i64 t.lv, .slice A.l.o t.left.length A.l.c, .slice A.r.o t.right.length A.r.c, .slice A.p.o t.par.length A.p.c, .slice A.h.o t.hgt.length A.h.c, .slice A.s.o t.siz.length A.s.c]
abbrev TA.agg (A : TA) (t : Tr) : Value :=
  .agg #[.int .i64 t.lv, .slice A.l.o t.left.length A.l.c, .slice A.r.o t.right.length A.r.c, .slice A.p.o t.par.length A.p.c, .slice A.h.o t.hgt.length A.h.c, .slice A.s.o t.siz.length A.s.c]

/-- A tree that is read. -/
structure TreeAt (w : World) (A : TA) (t : Tr) : Prop where
  l : InRow .i64 w A.l.o t.left.length A.l.b A.l.f t.left
  r : InRow .i64 w A.r.o t.right.length A.r.b A.r.f t.right
  p : InRow .i64 w A.p.o t.par.length A.p.b A.p.f t.par
  h : InRow .i64 w A.h.o t.hgt.length A.h.b A.h.f t.hgt
  s : InRow .i64 w A.s.o t.siz.length A.s.b A.s.f t.siz
  ln : t.left.length ≤ 9223372036854775807 ∧ t.right.length ≤ 9223372036854775807 ∧ t.par.length ≤ 9223372036854775807 ∧ t.hgt.length ≤ 9223372036854775807 ∧ t.siz.length ≤ 9223372036854775807
  lw : -9223372036854775808 ≤ t.lv ∧ t.lv ≤ 9223372036854775807

/-- The blocks of its lists. -/
def TA.has (A : TA) (t : Tr) (k : Nat) : Prop := (0 < t.left.length ∧ k = A.l.b) ∨ (0 < t.right.length ∧ k = A.r.b) ∨ (0 < t.par.length ∧ k = A.p.b) ∨ (0 < t.hgt.length ∧ k = A.h.b) ∨ (0 < t.siz.length ∧ k = A.s.b)

theorem TreeAt.mod {F : Nat → Prop} {w w' : World} {A : TA} {t : Tr} (h : TreeAt w A t) (m : Mod F w w') (hF : ∀ k, A.has t k → ¬ F k) : TreeAt w' A t :=
  ⟨h.l.mod m fun e => hF _ (.inl ⟨e, rfl⟩), h.r.mod m fun e => hF _ (.inr (.inl ⟨e, rfl⟩)), h.p.mod m fun e => hF _ (.inr (.inr (.inl ⟨e, rfl⟩))), h.h.mod m fun e => hF _ (.inr (.inr (.inr (.inl ⟨e, rfl⟩)))), h.s.mod m fun e => hF _ (.inr (.inr (.inr (.inr ⟨e, rfl⟩)))), h.ln, h.lw⟩

theorem TreeAt.below {w w' : World} {A : TA} {t : Tr} (h : TreeAt w A t) (hb : Below w.heap.size w w') : TreeAt w' A t := h.mod (Mod.of_below (F := fun _ => False) hb) (fun _ _ e => e)

theorem TreeAt.lt {w : World} {A : TA} {t : Tr} (h : TreeAt w A t) {k : Nat} (hk : A.has t k) : k < w.heap.size := by
  rcases hk with ⟨e, rfl⟩ | ⟨e, rfl⟩ | ⟨e, rfl⟩ | ⟨e, rfl⟩ | ⟨e, rfl⟩
  · exact h.l.lt e
  · exact h.r.lt e
  · exact h.p.lt e
  · exact h.h.lt e
  · exact h.s.lt e

/-- A row's cell and its address. -/
theorem InRow.get {w : World} {a : Option Addr} {b f : Nat} {z : List Int} (h : InRow .i64 w a z.length b f z) {i : Nat} (hi : i < z.length) : a = some ⟨b, f, none⟩ ∧ w.cell? ⟨b, f + i, none⟩ = some (.int .i64 (gi z i)) :=
  ⟨h.adr (by omega), h.cell i hi⟩

/-- The tree in a box. -/
def TBox (w : World) (tb : Nat) (A : TA) (t : Tr) : Prop := Blk w tb 61 (A.cells t)
theorem TBox.c0 {w : World} {tb : Nat} {A : TA} {t : Tr} (h : TBox w tb A t) : w.cell? ⟨tb, 0, none⟩ = some (.int .i64 t.lv) := Blk.cell h (i := 0) rfl
theorem TBox.c1 {w : World} {tb : Nat} {A : TA} {t : Tr} (h : TBox w tb A t) : w.cell? ⟨tb, 1, none⟩ = some (.slice A.l.o t.left.length A.l.c) := Blk.cell h (i := 1) rfl
theorem TBox.c2 {w : World} {tb : Nat} {A : TA} {t : Tr} (h : TBox w tb A t) : w.cell? ⟨tb, 2, none⟩ = some (.slice A.r.o t.right.length A.r.c) := Blk.cell h (i := 2) rfl
theorem TBox.c3 {w : World} {tb : Nat} {A : TA} {t : Tr} (h : TBox w tb A t) : w.cell? ⟨tb, 3, none⟩ = some (.slice A.p.o t.par.length A.p.c) := Blk.cell h (i := 3) rfl
theorem TBox.c4 {w : World} {tb : Nat} {A : TA} {t : Tr} (h : TBox w tb A t) : w.cell? ⟨tb, 4, none⟩ = some (.slice A.h.o t.hgt.length A.h.c) := Blk.cell h (i := 4) rfl
theorem TBox.c5 {w : World} {tb : Nat} {A : TA} {t : Tr} (h : TBox w tb A t) : w.cell? ⟨tb, 5, none⟩ = some (.slice A.s.o t.siz.length A.s.c) := Blk.cell h (i := 5) rfl
theorem TBox.new (w : World) (A : TA) (t : Tr) : TBox (w.alloc (.cells #[.int .i64 t.lv, .slice A.l.o t.left.length A.l.c, .slice A.r.o t.right.length A.r.c, .slice A.p.o t.par.length A.p.c, .slice A.h.o t.hgt.length A.h.c, .slice A.s.o t.siz.length A.s.c] 61)) w.heap.size A t := Blk.new w 61 (A.cells t)

theorem bel_alloc (w : World) (o : Obj) : Below w.heap.size w (w.alloc o) := (Below.refl _ _).alloc (Nat.le_refl _) _

def leafB (t : Tr) (x : Nat) : Bool := decide (LeafAt t x)
def innB (t : Tr) (ls : List Nat) (x : Nat) : Bool := decide (InnAt t ls x)
def belB (t : Tr) (x : Nat) : Bool := decide (BelAt t x)

set_option maxHeartbeats 1000000 in
theorem leaf_ok (w : World) (A : TA) (t : Tr) (ht : TreeAt w A t) (x : Nat) (h1 : x < t.left.length) (h2 : x < t.right.length) (h3 : x < t.hgt.length) (h4 : x < t.siz.length) :
    Calls Tryd.prog 83 #[A.agg t, .int .i64 x] w (RetB (.bool (leafB t x)) w) := by
  have HT := Lib.hid ht
  have HB := Lib.hid (TBox.new w A t)
  have hb := bel_alloc w (.cells #[.int .i64 t.lv, .slice A.l.o t.left.length A.l.c, .slice A.r.o t.right.length A.r.c, .slice A.p.o t.par.length A.p.c, .slice A.h.o t.hgt.length A.h.c, .slice A.s.o t.siz.length A.s.c] 61)
  have HW := Lib.hid hb
  have HT2 := Lib.hid (HT.out.below hb)
  obtain ⟨e1, l1⟩ := HT2.out.l.get h1
  obtain ⟨e2, l2⟩ := HT2.out.r.get h2
  obtain ⟨e3, l3⟩ := HT2.out.h.get h3
  obtain ⟨e4, l4⟩ := HT2.out.s.get h4
  have c1 := HB.out.c1
  have c2 := HB.out.c2
  have c4 := HB.out.c4
  have c5 := HB.out.c5
  obtain ⟨ln1, ln2, _, ln4, ln5⟩ := ht.ln
  have HL : Hid (leafB t x = decide (gi t.left x = -1 ∧ gi t.right x = -1 ∧ gi t.hgt x = 0 ∧ gi t.siz x = 1)) := rfl
  clear hb ht
  show Calls _ _ #[.agg #[.int .i64 t.lv, .slice A.l.o t.left.length A.l.c, .slice A.r.o t.right.length A.r.c, .slice A.p.o t.par.length A.p.c, .slice A.h.o t.hgt.length A.h.c, .slice A.s.o t.siz.length A.s.c], _] _ _
  generalize A.l.o = lo at *
  generalize A.r.o = ro at *
  generalize A.h.o = ho at *
  generalize A.s.o = so at *
  subst e1 e2 e3 e4
  have x1 : (x : Int) < (t.left.length : Int) := by omega
  have x2 : (x : Int) < (t.right.length : Int) := by omega
  have x4 : (x : Int) < (t.hgt.length : Int) := by omega
  have x5 : (x : Int) < (t.siz.length : Int) := by omega
  generalize gi t.left x = a at *
  generalize gi t.right x = b at *
  generalize gi t.hgt x = c at *
  generalize gi t.siz x = d at *
  go_enter Tryd.func83, Tryd.ntmps83
  go_wp2_with fail
  all_goals
    go_ret
    refine ⟨ret_bool ?_, HW.out⟩
    rw [HL.out, Bool.eq_iff_iff]
    simp [*]

set_option maxHeartbeats 1000000 in
theorem below_ok (w : World) (A : TA) (t : Tr) (ht : TreeAt w A t) (hl : LensOk t) (x : Nat) (hx : x < t.par.length) :
    Calls Tryd.prog 87 #[A.agg t, .int .i64 x] w (RetB (.bool (belB t x)) w) := by
  have HT := Lib.hid ht
  have HB := Lib.hid (TBox.new w A t)
  have hb := bel_alloc w (.cells #[.int .i64 t.lv, .slice A.l.o t.left.length A.l.c, .slice A.r.o t.right.length A.r.c, .slice A.p.o t.par.length A.p.c, .slice A.h.o t.hgt.length A.h.c, .slice A.s.o t.siz.length A.s.c] 61)
  have HW := Lib.hid hb
  have HT2 := Lib.hid (HT.out.below hb)
  obtain ⟨hl1, hl2, -, -⟩ := hl
  obtain ⟨e1, _⟩ := HT2.out.l.get (i := x) (by omega)
  obtain ⟨e2, _⟩ := HT2.out.r.get (i := x) (by omega)
  obtain ⟨e3, l3⟩ := HT2.out.p.get hx
  have c1 := HB.out.c1
  have c2 := HB.out.c2
  have c3 := HB.out.c3
  obtain ⟨ln1, ln2, ln3, -, -⟩ := ht.ln
  have HL : Hid (∀ p, gi t.par x = p → (belB t x = decide (p = -1 ∨ ((0 ≤ p ∧ p < t.par.length) ∧ (gi t.left p.toNat = x ∨ gi t.right p.toNat = x))))) := by rintro p rfl; rfl
  clear hb ht
  show Calls _ _ #[.agg #[.int .i64 t.lv, .slice A.l.o t.left.length A.l.c, .slice A.r.o t.right.length A.r.c, .slice A.p.o t.par.length A.p.c, .slice A.h.o t.hgt.length A.h.c, .slice A.s.o t.siz.length A.s.c], _] _ _
  obtain ⟨p, HP⟩ : ∃ p, Hid (gi t.par x = p) := ⟨_, rfl⟩
  rw [HP.out] at l3
  replace HL := Lib.hid (HL.out p HP.out)
  have x3 : (x : Int) < (t.par.length : Int) := by omega
  by_cases hp1 : p = -1
  · have t1 : (p == -1) = true := by simp [hp1]
    have HR : Hid (belB t x = true) := by show _ = _; rw [HL.out, hp1]; simp
    clear hp1
    clear hl1 hl2
    generalize A.l.o = lo at *
    generalize A.r.o = ro at *
    generalize A.p.o = po at *
    subst e1 e2 e3
    go_enter Tryd.func87, Tryd.ntmps87
    go_wp2_with fail
    go_ret
    exact ⟨ret_bool HR.out.symm, HW.out⟩
  · have t1 : (p == -1) = false := by simp [hp1]
    by_cases hp2 : 0 ≤ p ∧ p < (t.par.length : Int)
    · obtain ⟨q, rfl⟩ := Int.eq_ofNat_of_zero_le hp2.1
      have hq : q < t.par.length := by omega
      obtain ⟨_, l1⟩ := HT2.out.l.get (i := q) (by omega)
      obtain ⟨_, l2⟩ := HT2.out.r.get (i := q) (by omega)
      have HR : Hid (belB t x = decide (gi t.left q = x ∨ gi t.right q = x)) := by
        show _ = _
        rw [HL.out, Int.toNat_natCast, Bool.eq_iff_iff]
        simp only [decide_eq_true_eq]
        constructor
        · rintro (h | h)
          · omega
          · exact h.2
        · intro h; exact .inr ⟨hp2, h⟩
      have t2 : (0 : Int) ≤ (q : Int) := by omega
      have t3 : decide (q < t.par.length) = true := by simp [hq]
      have t4 : (q : Int) < (t.left.length : Int) := by omega
      have t5 : (q : Int) < (t.right.length : Int) := by omega
      clear hp1 hp2
      clear hl1 hl2
      generalize gi t.left q = a at *
      generalize gi t.right q = b at *
      generalize A.l.o = lo at *
      generalize A.r.o = ro at *
      generalize A.p.o = po at *
      subst e1 e2 e3
      go_enter Tryd.func87, Tryd.ntmps87
      go_wp2_with fail
      all_goals
        go_ret
        refine ⟨ret_bool ?_, HW.out⟩
        rw [HR.out, Bool.eq_iff_iff]
        simp [*]
    · have HR : Hid (belB t x = false) := by
        show _ = _
        rw [HL.out, decide_eq_false_iff_not]
        rintro (h | h)
        · exact hp1 h
        · exact hp2 h.1
      clear hp1
      clear hl1 hl2
      generalize A.l.o = lo at *
      generalize A.r.o = ro at *
      generalize A.p.o = po at *
      subst e1 e2 e3
      by_cases h0 : 0 ≤ p
      · have t2 : decide (0 ≤ p) = true := by simp [h0]
        have t3 : decide (p < (t.par.length : Int)) = false := by simp; omega
        clear h0 hp2
        go_enter Tryd.func87, Tryd.ntmps87
        go_wp2_with fail
        go_ret
        exact ⟨ret_bool HR.out.symm, HW.out⟩
      · have t2 : decide (0 ≤ p) = false := by simp [h0]
        clear h0 hp2
        go_enter Tryd.func87, Tryd.ntmps87
        go_wp2_with fail
        go_ret
        exact ⟨ret_bool HR.out.symm, HW.out⟩

end Go.Proofs.YtenhbfbfkcjimaaDoor
