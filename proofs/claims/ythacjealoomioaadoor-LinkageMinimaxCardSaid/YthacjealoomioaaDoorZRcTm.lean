/- A tree in memory; recon.leaf, recon.below. -/
import Derived.Test.YthacjealoomioaaDoorZRcK
import Derived.Test.YthacjealoomioaaDoorZMgB
namespace Go.Proofs.YthacjealoomioaaDoor
set_option linter.unusedVariables false
set_option linter.unusedSimpArgs false
open Go.RowKit

/-- Where a list lies. -/
structure SA where
  o : Option Addr
  b : Nat
  f : Nat
  c : Nat

/-- Where a tree's lists lie. -/
structure TA where
  l : SA
  r : SA
  p : SA
  h : SA
  s : SA

abbrev TA.cells (A : TA) (t : Tr) : List Value :=
  [.int .i64 t.lv, .slice A.l.o t.left.length A.l.c, .slice A.r.o t.right.length A.r.c, .slice A.p.o t.par.length A.p.c, .slice A.h.o t.hgt.length A.h.c, .slice A.s.o t.siz.length A.s.c]
abbrev TA.agg (A : TA) (t : Tr) : Value :=
  .agg #[.int .i64 t.lv, .slice A.l.o t.left.length A.l.c, .slice A.r.o t.right.length A.r.c, .slice A.p.o t.par.length A.p.c, .slice A.h.o t.hgt.length A.h.c, .slice A.s.o t.siz.length A.s.c]

/-- A tree that is read. -/
structure TreeAt (w : World) (A : TA) (t : Tr) : Prop where
  l : InRow .i64 w A.l.o t.left.length A.l.b A.l.f t.left
  r : InRow .i64 w A.r.o t.right.length A.r.b A.r.f t.right
  p : InRow .i64 w A.p.o t.par.length A.p.b A.p.f t.par
  h : InRow .i64 w A.h.o t.hgt.length A.h.b A.h.f t.hgt
  s : InRow .i64 w A.s.o t.siz.length A.s.b A.s.f t.siz
  ln : t.left.length ≤ 9223372036854775807 ∧ t.right.length ≤ 9223372036854775807 ∧ t.par.length ≤ 9223372036854775807 ∧ t.hgt.length ≤ 9223372036854775807 ∧ t.siz.length ≤ 9223372036854775807
  lw : -9223372036854775808 ≤ t.lv ∧ t.lv ≤ 9223372036854775807

/-- The blocks of its lists. -/
def TA.has (A : TA) (t : Tr) (k : Nat) : Prop := (0 < t.left.length ∧ k = A.l.b) ∨ (0 < t.right.length ∧ k = A.r.b) ∨ (0 < t.par.length ∧ k = A.p.b) ∨ (0 < t.hgt.length ∧ k = A.h.b) ∨ (0 < t.siz.length ∧ k = A.s.b)

theorem TreeAt.mod {F : Nat → Prop} {w w' : World} {A : TA} {t : Tr} (h : TreeAt w A t) (m : Mod F w w') (hF : ∀ k, A.has t k → ¬ F k) : TreeAt w' A t :=
  ⟨h.l.mod m fun e => hF _ (.inl ⟨e, rfl⟩), h.r.mod m fun e => hF _ (.inr (.inl ⟨e, rfl⟩)), h.p.mod m fun e => hF _ (.inr (.inr (.inl ⟨e, rfl⟩))), h.h.mod m fun e => hF _ (.inr (.inr (.inr (.inl ⟨e, rfl⟩)))), h.s.mod m fun e => hF _ (.inr (.inr (.inr (.inr ⟨e, rfl⟩)))), h.ln, h.lw⟩

theorem TreeAt.below {w w' : World} {A : TA} {t : Tr} (h : TreeAt w A t) (hb : Below w.heap.size w w') : TreeAt w' A t := h.mod (Mod.of_below (F := fun _ => False) hb) (fun _ _ e => e)

theorem TreeAt.lt {w : World} {A : TA} {t : Tr} (h : TreeAt w A t) {k : Nat} (hk : A.has t k) : k < w.heap.size := by
  rcases hk with ⟨e, rfl⟩ | ⟨e, rfl⟩ | ⟨e, rfl⟩ | ⟨e, rfl⟩ | ⟨e, rfl⟩
  · exact h.l.lt e
  · exact h.r.lt e
  · exact h.p.lt e
  · exact h.h.lt e
  · exact h.s.lt e

/-- A row's cell and its address. -/
theorem InRow.get {w : World} {a : Option Addr} {b f : Nat} {z : List Int} (h : InRow .i64 w a z.length b f z) {i : Nat} (hi : i < z.length) : a = some ⟨b, f, none⟩ ∧ w.cell? ⟨b, f + i, none⟩ = some (.int .i64 (gi z i)) :=
  ⟨h.adr (by omega), h.cell i hi⟩

/-- The tree in a box. -/
def TBox (w : World) (tb : Nat) (A : TA) (t : Tr) : Prop := Blk w tb 86 (A.cells t)
theorem TBox.c0 {w : World} {tb : Nat} {A : TA} {t : Tr} (h : TBox w tb A t) : w.cell? ⟨tb, 0, none⟩ = some (.int .i64 t.lv) := Blk.cell h (i := 0) rfl
theorem TBox.c1 {w : World} {tb : Nat} {A : TA} {t : Tr} (h : TBox w tb A t) : w.cell? ⟨tb, 1, none⟩ = some (.slice A.l.o t.left.length A.l.c) := Blk.cell h (i := 1) rfl
theorem TBox.c2 {w : World} {tb : Nat} {A : TA} {t : Tr} (h : TBox w tb A t) : w.cell? ⟨tb, 2, none⟩ = some (.slice A.r.o t.right.length A.r.c) := Blk.cell h (i := 2) rfl
theorem TBox.c3 {w : World} {tb : Nat} {A : TA} {t : Tr} (h : TBox w tb A t) : w.cell? ⟨tb, 3, none⟩ = some (.slice A.p.o t.par.length A.p.c) := Blk.cell h (i := 3) rfl
theorem TBox.c4 {w : World} {tb : Nat} {A : TA} {t : Tr} (h : TBox w tb A t) : w.cell? ⟨tb, 4, none⟩ = some (.slice A.h.o t.hgt.length A.h.c) := Blk.cell h (i := 4) rfl
theorem TBox.c5 {w : World} {tb : Nat} {A : TA} {t : Tr} (h : TBox w tb A t) : w.cell? ⟨tb, 5, none⟩ = some (.slice A.s.o t.siz.length A.s.c) := Blk.cell h (i := 5) rfl
theorem TBox.new (w : World) (A : TA) (t : Tr) : TBox (w.alloc (.cells #[.int .i64 t.lv, .slice A.l.o t.left.length A.l.c, .slice A.r.o t.right.length A.r.c, .slice A.p.o t.par.length A.p.c, .slice A.h.o t.hgt.length A.h.c, .slice A.s.o t.siz.length A.s.c] 86)) w.heap.size A t := Blk.new w 86 (A.cells t)

theorem bel_alloc (w : World) (o : Obj) : Below w.heap.size w (w.alloc o) := (Below.refl _ _).alloc (Nat.le_refl _) _

def leafB (t : Tr) (x : Nat) : Bool := decide (LeafAt t x)
def innB (t : Tr) (ls : List Nat) (x : Nat) : Bool := decide (InnAt t ls x)
def belB (t : Tr) (x : Nat) : Bool := decide (BelAt t x)

end Go.Proofs.YthacjealoomioaaDoor
