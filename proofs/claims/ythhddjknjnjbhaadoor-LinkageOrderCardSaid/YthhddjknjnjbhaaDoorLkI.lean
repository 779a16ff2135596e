/- Slices of numbers: where they lie. No program in sight. -/
import Derived.Test.YthhddjknjnjbhaaDoorWhole
namespace Go.Proofs.YthhddjknjnjbhaaDoor
set_option linter.unusedVariables false
set_option linter.unusedSimpArgs false
open Go.RowKit

/-- A slice of numbers that came in: where it has elements it leads to their cells. -/
structure InRow (k : IntKind) (w : World) (ao : Option Addr) (len : Nat) (b off : Nat) (z : List Int) : Prop where
  size : z.length = len
  adr : 0 < len → ao = some ⟨b, off, none⟩
  cell : ∀ i, i < len → w.cell? ⟨b, off + i, none⟩ = some (.int k (z.getD i 0))

theorem InRow.lt {k : IntKind} {w : World} {ao : Option Addr} {len b off : Nat} {z : List Int} (h : InRow k w ao len b off z) (hl : 0 < len) : b < w.heap.size :=
  World.block_lt_of_cell? w _ (h.cell 0 hl)

theorem InRow.below {k : IntKind} {w w' : World} {ao : Option Addr} {len b off : Nat} {z : List Int} (h : InRow k w ao len b off z) (hb : Below w.heap.size w w') : InRow k w' ao len b off z :=
  ⟨h.size, h.adr, fun i hi => (hb.cell (h.lt (by omega))).trans (h.cell i hi)⟩

theorem inRow_of {k : IntKind} {w : World} {a : Option Addr} {len cap : Nat} {zs : List Int}
    (h : (a = none ∧ len = 0 ∧ cap = 0 ∧ zs = []) ∨
      ∃ x, a = some x ∧ len ≤ cap ∧ cap ≤ maxLen ∧ zs.length = cap ∧ (∀ i, i < zs.length → w.cell? (x.add i) = some (.int k (zs.getD i 0))) ∧ ∀ n ∈ zs, (Lit.int k n).wf = true) :
    len ≤ 9223372036854775807 ∧ ∃ b off, InRow k w a len b off (zs.take len) ∧ ∀ n ∈ zs.take len, (Lit.int k n).wf = true := by
  rcases h with ⟨rfl, rfl, rfl, rfl⟩ | ⟨x, rfl, h1, h2, h3, h4, h5⟩
  · exact ⟨by omega, 0, 0, ⟨by simp, by omega, by omega⟩, by simp⟩
  · refine ⟨by unfold maxLen at h2; omega, x.block, x.off, ⟨by rw [List.length_take]; omega, fun h0 => ?_, fun i hi => ?_⟩, fun n hn => h5 n (List.mem_of_mem_take hn)⟩
    · have := h4 0 (by omega)
      have hx : x.add 0 = x := by simp [Addr.add]
      rw [hx] at this
      obtain ⟨b, o, s⟩ := x
      cases s with
      | none => rfl
      | some s =>
        simp only [World.cell?] at this
        split at this <;> simp at this
    · have h6 := h4 0 (by omega)
      have hx : x.add 0 = x := by simp [Addr.add]
      rw [hx] at h6
      have hs : x.spot = none := by
        cases hs : x.spot with
        | none => rfl
        | some s =>
          simp only [World.cell?] at h6
          split at h6 <;> simp [hs] at h6
      have h7 := h4 i (by omega)
      have ha : x.add i = ⟨x.block, x.off + i, none⟩ := by
        obtain ⟨b, o, s⟩ := x
        simp only at hs
        subst hs
        unfold Addr.add
        split
        · subst_vars; rfl
        · rfl
      rw [ha] at h7
      rw [h7]
      congr 2
      simp [List.getD, List.getElem?_take, hi]

theorem InRow.mod {k : IntKind} {w w' : World} {ao : Option Addr} {len b off : Nat} {z : List Int} {F : Nat → Prop} (h : InRow k w ao len b off z) (hm : Mod F w w') (hn : 0 < len → ¬ F b) : InRow k w' ao len b off z :=
  ⟨h.size, h.adr, fun i hi => (hm.cell (h.lt (by omega)) (hn (by omega))).trans (h.cell i hi)⟩

theorem InRow.of_blk {k : IntKind} {w : World} {b : Nat} {T : TypeId} {z : List Int} (h : Blk w b T (z.map fun x => .int k x)) : InRow k w (some ⟨b, 0, none⟩) z.length b 0 z :=
  ⟨rfl, fun _ => rfl, fun i hi => by rw [Nat.zero_add]; exact h.cell (by simp [hi])⟩

end Go.Proofs.YthhddjknjnjbhaaDoor
