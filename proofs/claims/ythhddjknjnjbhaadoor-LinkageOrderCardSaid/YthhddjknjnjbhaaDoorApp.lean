/- append of one row of the program's own to another, also under a guard. -/
import Derived.Test.YthhddjknjnjbhaaDoorBase
namespace Go.Proofs.YthhddjknjnjbhaaDoor
set_option linter.unusedVariables false
set_option linter.unusedSimpArgs false
open Go.RowKit

theorem storeCells_nil (a : Addr) (P : Program) (w : World) : (storeCells a []).run P w = .ok () w := by
  simp [storeCells]

theorem run_append_nil {P : Program} (w : World) (t ty e : TypeId) (z : Value) (size bytes : Nat) (ht : P.underlying t = some (.slice e)) (hz : (P.info? e).map (fun i => (i.zero, i.size, i.bytes)) = some (some z, size, bytes))
    (base : Option Addr) (n cap : Nat) (h : n ≤ cap) :
    (Builtin.append_ #[t, t] ty #[.slice base n cap, .slice none 0 0]).run P w = .ok (.slice base n cap) w := by
  obtain ⟨i, hi, hz0, hz1, hz2⟩ := info_parts hz
  cases base <;> simp [Builtin.append_, run_underlying ht, sizeOf, typeInfo, hi, Builtin.lenOf, h, Builtin.firstCells, storeCells_nil]

theorem owns_cells {w : World} {e : TypeId} {size g cap n : Nat} {xs : List Value} (h : w.ownsRow 0 e size (.slice (some ⟨g, 0, none⟩) n cap) n xs) : ∀ j u, xs[j]? = some u → w.cell? ((⟨g, 0, none⟩ : Addr).add j) = some u := by
  intro j u hu
  rcases h.2 with ⟨h', _⟩ | ⟨g', cap', cur, h', _, hg, hn, _, hs, htake⟩
  · simp at h'
  · simp only [Value.slice.injEq, Option.some.injEq, Addr.mk.injEq, and_true, true_and] at h'
    obtain ⟨rfl, rfl⟩ := h'
    have hadd : (⟨g, 0, none⟩ : Addr).add j = ⟨g, j, none⟩ := by unfold Addr.add; split <;> simp_all
    have hj : j < xs.length := (List.getElem?_eq_some_iff.1 hu).1
    have hc : cur.toList[j]? = some u := by
      rw [← htake, List.getElem?_take] at hu
      split at hu
      · exact hu
      · cases hu
    rw [hadd]
    have := (show Blk w g e cur.toList from by unfold Blk; rw [hg])
    exact this.cell hc

/-- 'append(s, x...)' of two rows of the program's own. -/
theorem wpList_appendR {P : Program} {ops : Array Oper} {rest : List Oper} {d : Tmp} {t ty : TypeId} {s x : Operand} {pos : String} {aft : Array Edge} {gd : Option (Nat × Bool)} {a : Act} {Q : Exit → Act → World → Prop} {w : World}
    (hgd : Region.wanted ⟨some d, .call { callee := .builtin .append, args := #[s, x], argTypes := #[t, t] }, ty, pos, aft, gd⟩ (yielded ops a.tmps) = true)
    (e : TypeId) (z : Value) (size bytes : Nat) (ht : P.underlying t = some (.slice e)) (hz : (P.info? e).map (fun i => (i.zero, i.size, i.bytes)) = some (some z, size, bytes))
    (hzs : z.cells.size = size) (hsz : 0 < size) (v : Value) (n : Nat) (xs : List Value) (hs : a.eval s = v) (hown : w.ownsRow 0 e size v n xs)
    (u : Value) (m : Nat) (news : List Value) (hx : a.eval x = u) (hnews : w.ownsRow 0 e size u m news) (h1 : ∀ u ∈ news, u.oneCell' = true)
    (h63 : n + m ≤ maxLen) (hbytes : (n + m) * bytes ≤ 140737488355328)
    (h : ∀ v' w', w'.ownsRow 0 e size v' (n + m) (xs ++ news) → w.grownBy w' v.ownBlock → (∀ k, v'.ownBlock = some k → v.ownBlock = some k ∨ w.heap.size ≤ k) → wpList P ops Q rest (a.put (some d) v') w') :
    wpList P ops Q (⟨some d, .call { callee := .builtin .append, args := #[s, x], argTypes := #[t, t] }, ty, pos, aft, gd⟩ :: rest) a w := by
  have key : ∃ v' w', (Builtin.append_ #[t, t] ty #[v, u]).run P w = .ok v' w' ∧ w'.ownsRow 0 e size v' (n + m) (xs ++ news) ∧ w.grownBy w' v.ownBlock ∧ (∀ k, v'.ownBlock = some k → v.ownBlock = some k ∨ w.heap.size ≤ k) := by
    rcases hnews.2 with ⟨rfl, rfl⟩ | ⟨g, cap, cur, rfl, hr⟩
    · have hn0 : news = [] := List.eq_nil_of_length_eq_zero (by simpa using hnews.1)
      subst hn0
      rcases hown.2 with ⟨rfl, rfl⟩ | ⟨g, cap, cur, rfl, hbg, hgg, hnc, hcm, hcs, htake⟩
      · exact ⟨_, _, run_append_nil w t ty e z size bytes ht hz none 0 0 (Nat.le_refl _), by simpa using hown, World.grownBy.refl _ _, fun k hk => .inl hk⟩
      · exact ⟨_, _, run_append_nil w t ty e z size bytes ht hz _ _ _ hnc, by simpa using hown, World.grownBy.refl _ _, fun k hk => .inl hk⟩
    · exact run_appendB (P := P) w t ty e z size bytes ht hz hzs hsz v n xs hown ⟨g, 0, none⟩ m cap news hnews.1 (owns_cells hnews) h1 h63 hbytes
  obtain ⟨v', w', hr, h2, h3, h4⟩ := key
  refine BigFrame.wpList_want hgd fun K hK => ?_
  unfold Oper.wp execOp
  simp only [resolve, invoke, builtin, Sem.run_bind, Sem.run_pure, Result.andThen_ok, List.map_toArray, List.map_cons, List.map_nil, hs, hx, hr]
  exact hK _ _ (h v' w' h2 h3 h4)

end Go.Proofs.YthhddjknjnjbhaaDoor
