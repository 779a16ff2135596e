/- RowsK. -/
import Derived.Test.YthacjealoomioaaGreatDoorZRfH
/- Slices of numbers whose headers lie in one block. -/
namespace Go.Proofs.YthacjealoomioaaGreatDoor
set_option linter.unusedVariables false
set_option linter.unusedSimpArgs false
open Go.RowKit

theorem Tryz.infoSli : (Tryz.prog.info? 24).map (fun i => (i.zero, i.size, i.bytes)) = some (some (.slice none 0 0), 1, 24) := by kernel_rfl

/-- k slices of numbers in the block sb. -/
structure RowsK (w : World) (sb k : Nat) (V : Nat → Value) (L : Nat → List Nat) : Prop where
  blk : Blk w sb 24 ((List.range k).map V)
  row : ∀ s, s < k → w.ownsRow 0 3 1 (V s) (L s).length (natV (L s))
  ne : ∀ s, s < k → ∀ g, (V s).ownBlock = some g → g ≠ sb
  dis : ∀ s t, s < k → t < k → s ≠ t → ∀ g, (V s).ownBlock = some g → (V t).ownBlock ≠ some g

theorem RowsK.mod {F : Nat → Prop} {w w' : World} {sb k : Nat} {V : Nat → Value} {L : Nat → List Nat} (h : RowsK w sb k V L) (hm : Mod F w w') (h1 : ¬ F sb) (h2 : ∀ s, s < k → ∀ g, (V s).ownBlock = some g → ¬ F g) : RowsK w' sb k V L :=
  ⟨h.blk.mod hm h1, fun s hs => owns_mod (h.row s hs) hm (h2 s hs), h.ne, h.dis⟩
theorem RowsK.below {w w' : World} {sb k : Nat} {V : Nat → Value} {L : Nat → List Nat} (h : RowsK w sb k V L) (hb : Below w.heap.size w w') : RowsK w' sb k V L :=
  h.mod (Mod.of_below (F := fun _ => False) hb) (fun h => h) (fun _ _ _ _ h => h)

theorem RowsK.cell {w : World} {sb k : Nat} {V : Nat → Value} {L : Nat → List Nat} (h : RowsK w sb k V L) {s : Nat} (hs : s < k) : w.cell? ⟨sb, s, none⟩ = some (V s) :=
  h.blk.cell (by rw [List.getElem?_map, List.getElem?_range hs]; rfl)

theorem RowsK.made {w : World} {sb k : Nat} (h : Blk w sb 24 (List.replicate k (.slice none 0 0))) {L : Nat → List Nat} (hl : ∀ s, s < k → L s = []) : RowsK w sb k (fun _ => .slice none 0 0) L := by
  refine ⟨?_, fun s hs => by rw [hl s hs]; exact World.ownsRow_nil w _ _ _, fun s _ g hg => (by cases hg), fun s t _ _ _ g hg => (by cases hg)⟩
  rw [show (List.range k).map (fun _ => Value.slice none 0 0) = List.replicate k (.slice none 0 0) by rw [List.map_const', List.length_range]]
  exact h

theorem RowsK.put {w w' : World} {sb k : Nat} {V : Nat → Value} {L L' : Nat → List Nat} (h : RowsK w sb k V L) {s : Nat} (hs : s < k) (hm : Mod (fun x => (V s).ownBlock = some x) w w') {v : Value}
    (ho : w'.ownsRow 0 3 1 v (L' s).length (natV (L' s))) (hL : ∀ t, t < k → t ≠ s → L' t = L t) (hv : ∀ g, v.ownBlock = some g → (V s).ownBlock = some g ∨ w.heap.size ≤ g) :
    RowsK (w'.setCell ⟨sb, s, none⟩ v) sb k (fun t => if t = s then v else V t) L' := by
  have hlt := h.blk.lt
  have hvne : ∀ g, v.ownBlock = some g → g ≠ sb := fun g hg => by
    rcases hv g hg with e | e
    · exact h.ne s hs g e
    · omega
  have hvo : ∀ t, t < k → t ≠ s → ∀ g, v.ownBlock = some g → (V t).ownBlock ≠ some g := fun t ht hne g hg e => by
    rcases hv g hg with e' | e'
    · exact h.dis s t hs ht (fun e => hne e.symm) g e' e
    · have := ((h.row t ht).lt g e).2
      omega
  refine ⟨?_, fun t ht => ?_, fun t ht g hg => ?_, fun t u ht hu hne g hg hg' => ?_⟩
  · have := (h.blk.mod hm (fun e => h.ne s hs sb e rfl)).set s v
    have e : ((List.range k).map V).set s v = (List.range k).map fun t => if t = s then v else V t := by
      apply List.ext_getElem?
      intro i
      by_cases hi : i = s
      · subst hi
        rw [List.getElem?_set_self (by simp; omega), List.getElem?_map, List.getElem?_range hs]
        simp
      · rw [List.getElem?_set_ne (by omega), List.getElem?_map, List.getElem?_map]
        by_cases hik : i < k
        · rw [List.getElem?_range hik]; simp [hi]
        · rw [List.getElem?_eq_none (by simp; omega)]; rfl
    rw [e] at this
    exact this
  · by_cases e : t = s
    · simp only [if_pos e]
      rw [e]
      exact owns_mod ho ((Mod.refl (fun x => x = sb) w').setCell _ (fun _ => rfl) _) (fun x hx => hvne x hx)
    · simp only [if_neg e]
      rw [hL t ht e]
      exact owns_mod (owns_mod (h.row t ht) hm (fun x hx e' => h.dis s t hs ht (fun e'' => e e''.symm) x e' hx)) ((Mod.refl (fun x => x = sb) w').setCell _ (fun _ => rfl) _) (fun x hx => h.ne t ht x hx)
  · by_cases e : t = s
    · simp only [if_pos e] at hg
      exact hvne g hg
    · simp only [if_neg e] at hg
      exact h.ne t ht g hg
  · by_cases e : t = s
    · simp only [if_pos e] at hg
      simp only [if_neg (fun e' : u = s => hne (e.trans e'.symm))] at hg'
      exact hvo u hu (fun e' => hne (e.trans e'.symm)) g hg hg'
    · simp only [if_neg e] at hg
      by_cases e2 : u = s
      · simp only [if_pos e2] at hg'
        exact hvo t ht e g hg' hg
      · simp only [if_neg e2] at hg'
        exact h.dis t u ht hu hne g hg hg'

end Go.Proofs.YthacjealoomioaaGreatDoor
