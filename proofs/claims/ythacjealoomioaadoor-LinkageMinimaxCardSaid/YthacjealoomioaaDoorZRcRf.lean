/- Reference of layer 18: root, least, below, Above. -/
import Derived.Test.YthacjealoomioaaDoorZRcDn
import Derived.Test.YthacjealoomioaaDoorZMgB
namespace Go.Proofs.YthacjealoomioaaDoor
set_option linter.unusedVariables false
set_option linter.unusedSimpArgs false
open Go.RowKit

/-- The root r lies above x. -/
inductive Up (t : Tr) (m : Nat) : Nat → Nat → Prop
  | root {x : Nat} : x < m → gi t.par x = -1 → Up t m x x
  | step {x p r : Nat} : x < m → gi t.par x = p → x < p → Up t m p r → Up t m x r

theorem Up.lt {t : Tr} {m x r : Nat} (h : Up t m x r) : x < m := by cases h <;> assumption

theorem up_of {t : Tr} {n m : Nat} {ls : List Nat} (h : TV t n m ls) : ∀ x, x < m → Up t m x (rt t m x) :=
  h.down (Q := fun x => Up t m x (rt t m x)) (fun x hx e => by
    rw [rt_root h hx e]
    rcases h.par hx with e' | ⟨p, e', _⟩
    · exact .root hx e'
    · omega) (fun x p hx hp hlt hn e ih => by rw [rt_par h hx e]; exact .step hx e hlt ih)

/-- The least leaf below x is a. -/
inductive Low (t : Tr) (n m : Nat) : Nat → Nat → Prop
  | leaf {x : Nat} : x < n → Low t n m x x
  | node {x l r a b : Nat} : n ≤ x → x < m → gi t.left x = l → gi t.right x = r → Low t n m l a → Low t n m r b → Low t n m x (min a b)

theorem low_of {t : Tr} {n m : Nat} {ls : List Nat} (h : TV t n m ls) : ∀ x, x < m → Low t n m x (ls.getD x 0) := by
  intro x
  induction x using Nat.strongRecOn with
  | _ x ih =>
    intro hx
    by_cases c : x < n
    · rw [h.ls0 x c]; exact .leaf c
    · obtain ⟨c1, c2, _, _, _, c6, c7⟩ := h.child (x := x) (by omega) hx
      have hlt := (h.inn x (by omega) hx).2.1.2.2
      have e : ls.getD x 0 = min (ls.getD (lc t x) 0) (ls.getD (rc t x) 0) := by rw [h.ls1 x (by omega) hx]; omega
      rw [e]
      exact .node (by omega) hx c6 c7 (ih _ c1 (by omega)) (ih _ c2 (by omega))

end Go.Proofs.YthacjealoomioaaDoor
