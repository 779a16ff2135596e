/- RlB, OpenT, RlE, RlG. -/
import Derived.Test.YthacjealoomioaaGreatDoorZHe
import Derived.Test.YthacjealoomioaaGreatDoorZGa
import Derived.Test.YthacjealoomioaaGreatDoorZHh
import Derived.Test.YthacjealoomioaaGreatDoorZGl
import Derived.Test.YthacjealoomioaaGreatDoorZGe
import Derived.Test.YthacjealoomioaaGreatDoorZGb
import Derived.Outline
import Derived.Deep.RegionHeld3
/- The statements ReconBuilds, ReconTells, ReconChecks: the walks. -/
namespace Go.Proofs.YthacjealoomioaaGreatDoor
set_option linter.unusedVariables false
set_option linter.unusedSimpArgs false
open Go.RowKit

def zTr : Tr := ⟨0, [], [], [], [], []⟩
def zTA : TA := ⟨⟨none, 0, 0, 0⟩, ⟨none, 0, 0, 0⟩, ⟨none, 0, 0, 0⟩, ⟨none, 0, 0, 0⟩, ⟨none, 0, 0, 0⟩⟩
theorem zTree (w : World) : TreeAt w zTA zTr := by
  have h : InRow .i64 w none 0 0 0 [] := ⟨rfl, fun h => absurd h (by decide), fun i hi => absurd hi (by simp)⟩
  exact ⟨h, h, h, h, h, by unfold zTr; simp, by unfold zTr; simp⟩
/-- The tree that is built, or an empty one. -/
def blT (n : Int) (l : List Ed) : Tr := if newErr n l = 0 then bdL n.toNat l else zTr
theorem blT_ok {n : Int} {l : List Ed} (h : newErr n l = 0) : blT n l = bdL n.toNat l := if_pos h
theorem blT_no {n : Int} {l : List Ed} (h : newErr n l ≠ 0) : blT n l = zTr := if_neg h

theorem blT_len (n : Int) (l : List Ed) : (blT n l).left.length ≤ 8192 := by
  by_cases h0 : newErr n l = 0
  · obtain ⟨k, rfl, hg⟩ := GOk.of_err h0
    have htv := bdL_tv3 hg
    have h4 := htv.hn
    have h2 := htv.two
    rw [blT_ok h0, Int.toNat_natCast, htv.ll]; omega
  · rw [blT_no h0]; unfold zTr; simp

end Go.Proofs.YthacjealoomioaaGreatDoor

/- A tree that comes in by value: six fields of one cell. -/
namespace Go.Proofs.YthacjealoomioaaGreatDoor
set_option linter.unusedVariables false
set_option linter.unusedSimpArgs false
open Go.ChangeShapes Go.WideShapes Go.RowKit Go.Deep

/-- The cells of a struct of one-cell fields, each read by itself. -/
theorem open_fields {H : Type} {enc : TypeId × Value → H} {P : Program} {w : World} {base : Nat} {spare : Nat → Bool} {held : Bool} {r : Reach} {b0 : Nat} {t : TypeId} {fs : Array Field} {v : Value} {d : DataW H} {p : List MemPlace}
    (hs : P.underlying t = some (.struct fs)) (hone : oneCellFields P fs = true) (hC : P.cellsOf t = fs.size) (hv : Value.okWide P w r b0 t v) (h : DataW.Trod enc P w base spare held t v d p) :
    ∃ (cs : Array Value) (n : Nat), v = .agg cs ∧ cs.size = fs.size ∧ ∀ (j : Nat) (f : Field), fs[j]? = some f → ∃ u y, cs[j]? = some u ∧ DataW.trod enc P w base spare held n f.type [u] = some y := by
  obtain ⟨cs, rfl, hsz⟩ := okWide_struct hs hv
  obtain ⟨fuel, hf⟩ := h
  obtain ⟨xs, n, _, hx, hl, hlen, hg⟩ := DataW.trod_struct hs hf
  rw [hC] at hsz
  refine ⟨cs, n, rfl, hsz, fun j f hj => ?_⟩
  obtain ⟨ho, hk⟩ := hone_of hone j f hj
  have hjl : j < fs.size := (Array.getElem?_eq_some_iff.1 hj).1
  have h1 := hg j f hj
  rw [ho, hk] at h1
  have hcl : j < (Value.agg cs).cells.toList.length := by rw [hl, hC]; exact hjl
  have e1 : ((Value.agg cs).cells.toList.drop j).take 1 = [(Value.agg cs).cells.toList[j]] := by
    rw [List.drop_eq_getElem_cons hcl]; rfl
  rw [e1] at h1
  have hxj : xs[j]? = some (xs[j]'(by omega)) := List.getElem?_eq_getElem (by omega)
  refine ⟨_, _, ?_, h1.trans hxj⟩
  have hca : j < cs.size := by omega
  rw [Array.getElem?_eq_getElem hca]
  simp [Value.cells]

theorem i64_bd {x : Int} (h : (Lit.int .i64 x).wf = true) : -9223372036854775808 ≤ x ∧ x ≤ 9223372036854775807 := by
  simp [Lit.wf, IntKind.min, IntKind.max, IntKind.signed, IntKind.bits] at h
  exact ⟨by omega, by omega⟩

/-- A slice of 64-bit numbers that came in. -/
theorem open_row {H : Type} {enc : TypeId × Value → H} {P : Program} {w : World} {base : Nat} {held : Bool} {t e : TypeId} {fuel : Nat} {u : Value} {x : DataW H × List MemPlace}
    (ht : P.underlying t = some (.slice e)) (he : P.underlying e = some (.int .i64)) (hc : P.cellsOf e = 1) (h : DataW.trod enc P w base (fun _ => true) held fuel t [u] = some x) :
    ∃ (S : SA) (z : List Int), u = .slice S.o z.length S.c ∧ InRow .i64 w S.o z.length S.b S.f z ∧ z.length ≤ 9223372036854775807 ∧ (S.o = none → S.c = 0) ∧ (∀ n ∈ z, -9223372036854775808 ≤ n ∧ n ≤ 9223372036854775807) := by
  rcases open_ints ht he hc h with ⟨hcs, _⟩ | ⟨a, len, cap, zs, hcs, _, hl, hm, hz, _, hcell, hwf⟩
  · injection hcs with hcs
    subst hcs
    exact ⟨⟨none, 0, 0, 0⟩, [], rfl, ⟨rfl, fun h => by simp at h, fun i hi => by simp at hi⟩, by simp, fun _ => rfl, by simp⟩
  · injection hcs with hcs
    subst hcs
    simp only [if_true] at hz
    unfold maxLen at hm
    have hlen : (zs.take len).length = len := by rw [List.length_take]; omega
    by_cases h0 : 0 < len
    · obtain ⟨ab, ao, sp⟩ := a
      have h00 := hcell 0 (by omega)
      have e0 : (⟨ab, ao, sp⟩ : Addr).add 0 = ⟨ab, ao, sp⟩ := by simp [Addr.add]
      rw [e0] at h00
      have hsp : sp = none := by have := spot_none h00; injection this
      subst hsp
      refine ⟨⟨some ⟨ab, ao, none⟩, ab, ao, cap⟩, zs.take len, by rw [hlen], ⟨rfl, fun _ => rfl, fun i hi => ?_⟩, by omega, (fun h => by cases h), fun n hn => i64_bd (hwf n (List.mem_of_mem_take hn))⟩
      rw [hlen] at hi
      have := hcell i (by omega)
      rw [add_none] at this
      rw [this, List.getD_eq_getElem?_getD, List.getD_eq_getElem?_getD, List.getElem?_take_of_lt hi]
    · have : len = 0 := by omega
      subst this
      exact ⟨⟨some a, 0, 0, cap⟩, [], rfl, ⟨rfl, fun h => by simp at h, fun i hi => by simp at hi⟩, by simp, (fun h => by cases h), by simp⟩

/-- The numbers of a tree are such that the machine can hold. -/
structure TrW (t : Tr) : Prop where
  l : ∀ n ∈ t.left, -9223372036854775808 ≤ n ∧ n ≤ 9223372036854775807
  r : ∀ n ∈ t.right, -9223372036854775808 ≤ n ∧ n ≤ 9223372036854775807
  p : ∀ n ∈ t.par, -9223372036854775808 ≤ n ∧ n ≤ 9223372036854775807
  h : ∀ n ∈ t.hgt, -9223372036854775808 ≤ n ∧ n ≤ 9223372036854775807
  s : ∀ n ∈ t.siz, -9223372036854775808 ≤ n ∧ n ≤ 9223372036854775807

end Go.Proofs.YthacjealoomioaaGreatDoor

/- The statements' graphs: Edges. -/
namespace Go.Proofs.YthacjealoomioaaGreatDoor
set_option linter.unusedVariables false
set_option linter.unusedSimpArgs false
open Go.RowKit

/-- Triples of bytes. -/
structure BRow (w : World) (ao : Option Addr) (len b off : Nat) (F : Nat → Nat → Nat) : Prop where
  lim : len ≤ 9223372036854775807
  adr : 0 < len → ao = some ⟨b, off, none⟩
  cell : ∀ i, i < len → ∀ j, j < 3 → w.cell? ⟨b, off + (i * 3 + j), none⟩ = some (.int .u8 (F i j : Int))
  le : ∀ i, i < len → ∀ j, j < 3 → F i j ≤ 255

theorem BRow.below {w w' : World} {ao : Option Addr} {len b off : Nat} {F : Nat → Nat → Nat} (h : BRow w ao len b off F) (hb : Below w.heap.size w w') : BRow w' ao len b off F :=
  ⟨h.lim, h.adr, fun i hi j hj => (hb.cell (World.block_lt_of_cell? w _ (h.cell i hi j hj))).trans (h.cell i hi j hj), h.le⟩

end Go.Proofs.YthacjealoomioaaGreatDoor

/- The statements about the trees of graphs: what they begin with. ReconValid. -/
namespace Go.Proofs.YthacjealoomioaaGreatDoor
set_option linter.unusedVariables false
set_option linter.unusedSimpArgs false
open Go.RowKit

/-- All that is known of the tree of a graph. -/
structure GTree (n m : Nat) (L : List Ed) (T : Tr) (ls : List Nat) : Prop where
  g : GOk n L
  eq : T = bdL n L
  meq : m = n + FN n L
  lseq : ls = lsB n L (FN n L)
  tv : TV T n m ls
  ls : lsL T = some ls
  two : m ≤ 2 * n

theorem GTree.roots {n m : Nat} {L : List Ed} {T : Tr} {ls : List Nat} (h : GTree n m L T ls) : rootsO T = some (rootsL T n m ls) := by
  rw [rootsO_some h.ls, h.tv.lv, h.tv.pl, Int.toNat_natCast]
theorem GTree.leaves {n m : Nat} {L : List Ed} {T : Tr} {ls : List Nat} (h : GTree n m L T ls) {x : Nat} (hx : x < m) : leavesO T x = some (leavesL T n m x) := by
  rw [leavesO_some h.ls (by rw [h.tv.pl]; omega), h.tv.lv, h.tv.pl, Int.toNat_natCast, Int.toNat_natCast]
theorem GTree.top {n m : Nat} {L : List Ed} {T : Tr} {ls : List Nat} (h : GTree n m L T ls) (th : Int) {v : Nat} (hv : v < n) : topV T v th = (((ab T m th v : Nat) : Int), 0) := by
  unfold topV
  rw [if_neg (by rw [h.ls]; simp), if_neg (by rw [h.tv.lv]; omega), h.tv.pl, Int.toNat_natCast]

-- LAYER
theorem GTree.agg {n m : Nat} {L : List Ed} {T : Tr} {ls : List Nat} (h : GTree n m L T ls) (A : TA) : A.agg T = .agg #[.int .i64 (n : Int), .slice A.l.o m A.l.c, .slice A.r.o m A.r.c, .slice A.p.o m A.p.c, .slice A.h.o m A.h.c, .slice A.s.o m A.s.c] := by
  show Value.agg #[.int .i64 T.lv, .slice A.l.o T.left.length A.l.c, .slice A.r.o T.right.length A.r.c, .slice A.p.o T.par.length A.p.c, .slice A.h.o T.hgt.length A.h.c, .slice A.s.o T.siz.length A.s.c] = _
  rw [h.tv.lv, h.tv.ll, h.tv.rl, h.tv.pl, h.tv.hl, h.tv.sl]

theorem LnPost.some {w w' : World} {l : List Nat} {e : Ending} (h : LnPost w (some l) e w') : RowPost w 3 1 l.length (natV l) e w' := by
  obtain ⟨v, e1, h1, h2⟩ := h.ok l rfl
  exact ⟨v, e1, h1, h.bel, h2⟩

section
variable {n m : Nat} {L : List Ed} {T : Tr} {ls : List Nat} (hg : GTree n m L T ls) {A : TA} {W : World} (ht : TreeAt W A T)
include hg ht
end

end Go.Proofs.YthacjealoomioaaGreatDoor
