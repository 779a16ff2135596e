/- recon.down: the nodes from the last one on. recon.Check, recon.Least. -/
import Derived.Test.YthacjealoomioaaDoorZRcLt
import Derived.Test.YthacjealoomioaaDoorZRange
import Derived.Test.YthacjealoomioaaDoorZRcO
namespace Go.Proofs.YthacjealoomioaaDoor
set_option linter.unusedVariables false
set_option linter.unusedSimpArgs false
open Go.RowKit Go.Shelf
attribute [local go_sem] Oper.semAt_some

/-- Where the way down stands: before node k - 1, or at the end. -/
def DnAt (I : Nat → World → Prop) (m : Nat) (s : Value) (W : World) : Prop := (∃ k : Nat, k < m ∧ s = .int .i64 k ∧ I (k + 1) W) ∨ (s = .int .i64 (-1) ∧ I 0 W)

theorem DnAt.next {I : Nat → World → Prop} {m k : Nat} {W : World} (hk : k ≤ m) (h : I k W) : DnAt I m (.int .i64 ((k : Int) - 1)) W := by
  cases k with
  | zero => exact .inr ⟨rfl, h⟩
  | succ k => exact .inl ⟨k, by omega, by congr 1; omega, h⟩

/-- What Check returns. -/
def chk (t : Tr) : Int := match lsL t with | none => 2 | some _ => 0
theorem chk_none {t : Tr} (h : lsL t = none) : chk t = 2 := by unfold chk; rw [h]
theorem chk_some {t : Tr} {ls : List Nat} (h : lsL t = some ls) : chk t = 0 := by unfold chk; rw [h]

/-- A list that is returned: new, or nil. -/
structure LnPost (w : World) (o : Option (List Nat)) (e : Ending) (w' : World) : Prop where
  bad : o = none → e = .returned (.slice none 0 0)
  ok : ∀ l, o = some l → ∃ v, e = .returned v ∧ w'.ownsRow 0 3 1 v l.length (natV l) ∧ ∀ k, v.ownBlock = some k → w.heap.size ≤ k
  bel : Below w.heap.size w w'

theorem owns_blk2 {w : World} {b : Nat} {T : TypeId} {l : List Nat} (h : Blk w b T (natV l)) (hl : l.length ≤ 1000000) : w.ownsRow 0 T 1 (.slice (some ⟨b, 0, none⟩) l.length l.length) l.length (natV l) := by
  have := owns_blk h (by rw [natV_len]; omega)
  rw [natV_len] at this
  exact this

theorem ls_le {t : Tr} {ls : List Nat} (h : lsL t = some ls) : ls.length = t.par.length ∧ ls.length ≤ 8192 := by
  obtain ⟨⟨⟨h1, h2, h3, h4⟩, _⟩, e, _⟩ := lsL_iff.1 h
  rw [e, lowF_len]
  exact ⟨rfl, by omega⟩

end Go.Proofs.YthacjealoomioaaDoor
