/- recon.Top, recon.Roots. -/
import Derived.Test.YthacjealoomioaaDoorZRcDn
import Derived.Test.YthacjealoomioaaDoorZRcQ
namespace Go.Proofs.YthacjealoomioaaDoor
set_option linter.unusedVariables false
set_option linter.unusedSimpArgs false
open Go.RowKit

/-- What Top returns. -/
def topV (t : Tr) (leaf th : Int) : Int × Int :=
  if lsL t = none then (0, 2) else if leaf < 0 ∨ t.lv ≤ leaf then (0, 3) else (((ab t t.par.length th leaf.toNat : Nat) : Int), 0)

theorem tv_of {t : Tr} {ls : List Nat} (h : lsL t = some ls) : ∃ n, t.lv = ((n : Nat) : Int) ∧ TV t n t.par.length ls := by
  obtain ⟨n, m, hv, _⟩ := TV.of_ls h
  obtain rfl : t.par.length = m := hv.pl
  exact ⟨n, hv.lv, hv⟩

/-- The closure of Roots. -/
def lsC (ls : List Nat) (x y : Nat) : Int := cmpI ((ls.getD x 0 : Nat) : Int) ((ls.getD y 0 : Nat) : Int)

theorem lsC_neg (ls : List Nat) (x y : Nat) : lsC ls x y < 0 ↔ ls.getD x 0 < ls.getD y 0 := by
  unfold lsC cmpI
  by_cases h1 : ((ls.getD x 0 : Nat) : Int) < ((ls.getD y 0 : Nat) : Int)
  · rw [if_pos h1]; constructor
    · intro _; omega
    · intro _; decide
  · rw [if_neg h1]; split
    · constructor
      · intro h; omega
      · intro h; omega
    · constructor
      · intro h; omega
      · intro h; omega

/-- The roots among the first i nodes. -/
def topsTo (t : Tr) (i : Nat) : List Nat := (List.range i).filter fun x => decide (gi t.par x < 0)
theorem topsTo_succ (t : Tr) (i : Nat) : topsTo t (i + 1) = if gi t.par i < 0 then topsTo t i ++ [i] else topsTo t i := by
  unfold topsTo
  rw [List.range_succ, List.filter_append]
  by_cases h : gi t.par i < 0
  · rw [if_pos h]; simp [h]
  · rw [if_neg h]; simp [h]
theorem topsTo_len (t : Tr) (i : Nat) : (topsTo t i).length ≤ i := by
  have := List.length_filter_le (fun x => decide (gi t.par x < 0)) (List.range i)
  rw [List.length_range] at this
  exact this

/-- What Roots returns. -/
def rootsO (t : Tr) : Option (List Nat) := match lsL t with | none => none | some ls => some (rootsL t t.lv.toNat t.par.length ls)
theorem rootsO_none {t : Tr} (h : lsL t = none) : rootsO t = none := by unfold rootsO; rw [h]
theorem rootsO_some {t : Tr} {ls : List Nat} (h : lsL t = some ls) : rootsO t = some (rootsL t t.lv.toNat t.par.length ls) := by unfold rootsO; rw [h]

end Go.Proofs.YthacjealoomioaaDoor
