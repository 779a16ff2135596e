/- OpenT. -/
import Derived.Test.YthacjealoomioaaGreatDoorZGe
import Derived.Test.YthacjealoomioaaGreatDoorZFlat
/- A tree that comes in by value: six fields of one cell. -/
namespace Go.Proofs.YthacjealoomioaaGreatDoor
set_option linter.unusedVariables false
set_option linter.unusedSimpArgs false
open Go.ChangeShapes Go.WideShapes Go.RowKit Go.Deep

/-- The cells of a struct of one-cell fields, each read by itself. -/
theorem open_fields {H : Type} {enc : TypeId × Value → H} {P : Program} {w : World} {base : Nat} {spare : Nat → Bool} {held : Bool} {r : Reach} {b0 : Nat} {t : TypeId} {fs : Array Field} {v : Value} {d : DataW H} {p : List MemPlace}
    (hs : P.underlying t = some (.struct fs)) (hone : oneCellFields P fs = true) (hC : P.cellsOf t = fs.size) (hv : Value.okWide P w r b0 t v) (h : DataW.Trod enc P w base spare held t v d p) :
    ∃ (cs : Array Value) (n : Nat), v = .agg cs ∧ cs.size = fs.size ∧ ∀ (j : Nat) (f : Field), fs[j]? = some f → ∃ u y, cs[j]? = some u ∧ DataW.trod enc P w base spare held n f.type [u] = some y := by
  obtain ⟨cs, rfl, hsz⟩ := okWide_struct hs hv
  obtain ⟨fuel, hf⟩ := h
  obtain ⟨xs, n, _, hx, hl, hlen, hg⟩ := DataW.trod_struct hs hf
  rw [hC] at hsz
  refine ⟨cs, n, rfl, hsz, fun j f hj => ?_⟩
  obtain ⟨ho, hk⟩ := hone_of hone j f hj
  have hjl : j < fs.size := (Array.getElem?_eq_some_iff.1 hj).1
  have h1 := hg j f hj
  rw [ho, hk] at h1
  have hcl : j < (Value.agg cs).cells.toList.length := by rw [hl, hC]; exact hjl
  have e1 : ((Value.agg cs).cells.toList.drop j).take 1 = [(Value.agg cs).cells.toList[j]] := by
    rw [List.drop_eq_getElem_cons hcl]; rfl
  rw [e1] at h1
  have hxj : xs[j]? = some (xs[j]'(by omega)) := List.getElem?_eq_getElem (by omega)
  refine ⟨_, _, ?_, h1.trans hxj⟩
  have hca : j < cs.size := by omega
  rw [Array.getElem?_eq_getElem hca]
  simp [Value.cells]

theorem i64_bd {x : Int} (h : (Lit.int .i64 x).wf = true) : -9223372036854775808 ≤ x ∧ x ≤ 9223372036854775807 := by
  simp [Lit.wf, IntKind.min, IntKind.max, IntKind.signed, IntKind.bits] at h
  exact ⟨by omega, by omega⟩

/-- A slice of 64-bit numbers that came in. -/
theorem open_row {H : Type} {enc : TypeId × Value → H} {P : Program} {w : World} {base : Nat} {held : Bool} {t e : TypeId} {fuel : Nat} {u : Value} {x : DataW H × List MemPlace}
    (ht : P.underlying t = some (.slice e)) (he : P.underlying e = some (.int .i64)) (hc : P.cellsOf e = 1) (h : DataW.trod enc P w base (fun _ => true) held fuel t [u] = some x) :
    ∃ (S : SA) (z : List Int), u = .slice S.o z.length S.c ∧ InRow .i64 w S.o z.length S.b S.f z ∧ z.length ≤ 9223372036854775807 ∧ (S.o = none → S.c = 0) ∧ (∀ n ∈ z, -9223372036854775808 ≤ n ∧ n ≤ 9223372036854775807) := by
  rcases open_ints ht he hc h with ⟨hcs, _⟩ | ⟨a, len, cap, zs, hcs, _, hl, hm, hz, _, hcell, hwf⟩
  · injection hcs with hcs
    subst hcs
    exact ⟨⟨none, 0, 0, 0⟩, [], rfl, ⟨rfl, fun h => by simp at h, fun i hi => by simp at hi⟩, by simp, fun _ => rfl, by simp⟩
  · injection hcs with hcs
    subst hcs
    simp only [if_true] at hz
    unfold maxLen at hm
    have hlen : (zs.take len).length = len := by rw [List.length_take]; omega
    by_cases h0 : 0 < len
    · obtain ⟨ab, ao, sp⟩ := a
      have h00 := hcell 0 (by omega)
      have e0 : (⟨ab, ao, sp⟩ : Addr).add 0 = ⟨ab, ao, sp⟩ := by simp [Addr.add]
      rw [e0] at h00
      have hsp : sp = none := by have := spot_none h00; injection this
      subst hsp
      refine ⟨⟨some ⟨ab, ao, none⟩, ab, ao, cap⟩, zs.take len, by rw [hlen], ⟨rfl, fun _ => rfl, fun i hi => ?_⟩, by omega, (fun h => by cases h), fun n hn => i64_bd (hwf n (List.mem_of_mem_take hn))⟩
      rw [hlen] at hi
      have := hcell i (by omega)
      rw [add_none] at this
      rw [this, List.getD_eq_getElem?_getD, List.getD_eq_getElem?_getD, List.getElem?_take_of_lt hi]
    · have : len = 0 := by omega
      subst this
      exact ⟨⟨some a, 0, 0, cap⟩, [], rfl, ⟨rfl, fun h => by simp at h, fun i hi => by simp at hi⟩, by simp, (fun h => by cases h), by simp⟩

/-- The numbers of a tree are such that the machine can hold. -/
structure TrW (t : Tr) : Prop where
  l : ∀ n ∈ t.left, -9223372036854775808 ≤ n ∧ n ≤ 9223372036854775807
  r : ∀ n ∈ t.right, -9223372036854775808 ≤ n ∧ n ≤ 9223372036854775807
  p : ∀ n ∈ t.par, -9223372036854775808 ≤ n ∧ n ≤ 9223372036854775807
  h : ∀ n ∈ t.hgt, -9223372036854775808 ≤ n ∧ n ≤ 9223372036854775807
  s : ∀ n ∈ t.siz, -9223372036854775808 ≤ n ∧ n ≤ 9223372036854775807

end Go.Proofs.YthacjealoomioaaGreatDoor
