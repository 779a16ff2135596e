/- One round of the reference's Build, plainly. -/
import Derived.Test.YtenhbfbfkcjimaaZRfE
import Derived.Test.YtenhbfbfkcjimaaZRcRf
import Derived.Test.YtenhbfbfkcjimaaZMgB
namespace Go.Proofs.Ytenhbfbfkcjimaa
set_option linter.unusedVariables false
set_option linter.unusedSimpArgs false
open Go.RowKit

/-- The tree T before a round, T' behind it. -/
structure GrowSt (n c : Nat) (T T' : Tr) (u v r1 r2 ku kv z1 z2 : Nat) (we : Int) : Prop where
  lv : T.lv = n
  len : ∀ i, i < 5 → (T.at i).length = c
  up1 : Up T c u r1
  up2 : Up T c v r2
  low1 : Low T n c r1 ku
  low2 : Low T n c r2 kv
  b1 : r1 < c
  b2 : r2 < c
  s1 : gi T.siz r1 = (z1 : Int)
  s2 : gi T.siz r2 = (z2 : Int)
  y1 : z1 ≤ 4096
  y2 : z2 ≤ 4096
  lt : kv < ku → T' = ⟨T.lv, T.left ++ [(r2 : Int)], T.right ++ [(r1 : Int)], ((T.par ++ [-1]).set r2 (c : Int)).set r1 (c : Int), T.hgt ++ [we], T.siz ++ [(z2 : Int) + (z1 : Int)]⟩
  ge : ¬ kv < ku → T' = ⟨T.lv, T.left ++ [(r1 : Int)], T.right ++ [(r2 : Int)], ((T.par ++ [-1]).set r1 (c : Int)).set r2 (c : Int), T.hgt ++ [we], T.siz ++ [(z1 : Int) + (z2 : Int)]⟩

theorem grow_st {n : Nat} {l : List Ed} (hg : GOk n l) {j : Nat} (hj : j < FN n l) :
    ∃ r1 r2 ku kv z1 z2 : Nat, GrowSt n (n + j) (trT (bdS n l j).t (n + j)) (trT (bdS n l (j + 1)).t (n + (j + 1))) (uN l (fe n l j)) (vN l (fe n l j)) r1 r2 ku kv z1 z2 (wI l (fe n l j)) := by
  obtain ⟨hb, hb2, _⟩ := bd_inv3 hg j (Nat.le_of_lt hj)
  have hx : fe n l j < l.length := for_lt hj
  obtain ⟨hu, hv, _⟩ := hg.uv hx
  obtain ⟨p1, p2, p3⟩ := grow_root hb hb2 hu
  obtain ⟨q1, q2, q3⟩ := grow_root hb hb2 hv
  have hn := hb.hn
  have hkl := hb.kok.len
  have cnt : ∀ a, (bdS n l j).k.count a ≤ 4096 := fun a => Nat.le_trans List.count_le_length (by omega)
  have sz : ∀ y, y < n → gi (trT (bdS n l j).t (n + j)).siz ((bdS n l j).top.getD ((bdS n l j).k.getD y 0) 0) = (((bdS n l j).k.count ((bdS n l j).k.getD y 0) : Nat) : Int) := fun y hy => by
    obtain ⟨_, h2, _⟩ := grow_root hb hb2 hy
    show gi ((bdS n l j).t.siz.take (n + j)) _ = _
    rw [gi_take h2]
    exact hb.sz _ (by have := hb.kok.le y hy; omega) (hb.kok.idem y hy)
  have hlen : ∀ i, i < 5 → ((trT (bdS n l j).t (n + j)).at i).length = n + j := fun i hi => by
    have h1 : i = 0 ∨ i = 1 ∨ i = 2 ∨ i = 3 ∨ i = 4 := by omega
    have e1 := hb.ll
    have e2 := hb.rl
    have e3 := hb.pl
    have e4 := hb.hl
    have e5 := hb.sl
    rcases h1 with rfl | rfl | rfl | rfl | rfl
    · show ((bdS n l j).t.left.take (n + j)).length = _; rw [List.length_take]; omega
    · show ((bdS n l j).t.right.take (n + j)).length = _; rw [List.length_take]; omega
    · show ((bdS n l j).t.par.take (n + j)).length = _; rw [List.length_take]; omega
    · show ((bdS n l j).t.hgt.take (n + j)).length = _; rw [List.length_take]; omega
    · show ((bdS n l j).t.siz.take (n + j)).length = _; rw [List.length_take]; omega
  have hsd := grow_sides (l := l) (n := n) (s := bdS n l j) (i := fe n l j)
  refine ⟨_, _, _, _, _, _, hb.lv, hlen, p1, q1, p3, q3, p2, q2, sz _ hu, sz _ hv, cnt _, cnt _, fun h => ?_, fun h => ?_⟩
  · obtain ⟨e1, e2⟩ := hsd.1 h
    rw [bdS_succ]
    exact grow_step hb (by omega) l (fe n l j) e1 e2 q2 p2 rfl (by rw [sz _ hu, sz _ hv])
  · obtain ⟨e1, e2⟩ := hsd.2 h
    rw [bdS_succ]
    exact grow_step hb (by omega) l (fe n l j) e1 e2 p2 q2 rfl (by rw [sz _ hu, sz _ hv])

end Go.Proofs.Ytenhbfbfkcjimaa
