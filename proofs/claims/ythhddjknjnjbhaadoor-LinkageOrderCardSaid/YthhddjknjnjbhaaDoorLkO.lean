/- Rows of the program's own: general laws. No program in sight. -/
import Derived.Test.YthhddjknjnjbhaaDoorLkI
import Derived.Test.YthhddjknjnjbhaaDoorApp
namespace Go.Proofs.YthhddjknjnjbhaaDoor
set_option linter.unusedVariables false
set_option linter.unusedSimpArgs false
open Go.RowKit

theorem owns_same {w w' : World} {base : Nat} {e : TypeId} {size : Nat} {v : Value} {n : Nat} {xs : List Value} (h : w.ownsRow base e size v n xs) (hk : ∀ k, v.ownBlock = some k → w'.heap[k]? = w.heap[k]?) : w'.ownsRow base e size v n xs := by
  refine ⟨h.1, ?_⟩
  rcases h.2 with hn | ⟨g, cap, cur, rfl, hb, hgg, rest⟩
  · exact .inl hn
  · exact .inr ⟨g, cap, cur, rfl, hb, by rw [hk g rfl]; exact hgg, rest⟩

theorem owns_set {w : World} {base : Nat} {e : TypeId} {size g n cap : Nat} {xs : List Value} (h : w.ownsRow base e size (.slice (some ⟨g, 0, none⟩) n cap) n xs) (j : Nat) (hj : j < n * size) (u : Value) :
    (w.setCell ⟨g, j, none⟩ u).ownsRow base e size (.slice (some ⟨g, 0, none⟩) n cap) n (xs.set j u) := by
  refine ⟨by simpa using h.1, ?_⟩
  rcases h.2 with ⟨h', _⟩ | ⟨g', cap', cur, h', hb, hg, h1, h2, hs, htake⟩
  · simp at h'
  · simp only [Value.slice.injEq, Option.some.injEq, Addr.mk.injEq, and_true, true_and] at h'
    obtain ⟨rfl, rfl⟩ := h'
    refine .inr ⟨g, cap, cur.setIfInBounds j u, rfl, hb, ?_, h1, h2, by simpa using hs, ?_⟩
    · simp [World.setCell, Array.getElem?_modify, hg]
    · simp only [Array.toList_setIfInBounds]
      rw [← htake, List.take_set]

theorem owns_form {w : World} {base : Nat} {e : TypeId} {size : Nat} {v : Value} {n : Nat} {xs : List Value} (h : w.ownsRow base e size v n xs) (hn : 0 < n) :
    ∃ g cap, v = .slice (some ⟨g, 0, none⟩) n cap ∧ n ≤ cap ∧ cap ≤ maxLen ∧ g < w.heap.size ∧ (∀ j, j < n * size → w.cell? ⟨g, j, none⟩ = xs[j]?) ∧ (∀ j, w.frozen? ⟨g, j, none⟩ = false) := by
  rcases h.2 with ⟨_, h0⟩ | ⟨g, cap, cur, rfl, hb, hg, h1, h2, hs, htake⟩
  · omega
  · refine ⟨g, cap, rfl, h1, h2, (Array.getElem?_eq_some_iff.1 hg).1, fun j hj => h.cellAt j hj, fun j => by simp [World.frozen?, hg]⟩

theorem owns_slice {w : World} {base : Nat} {e : TypeId} {size : Nat} {v : Value} {n : Nat} {xs : List Value} (h : w.ownsRow base e size v n xs) : ∃ ao cap, v = .slice ao n cap := by
  rcases h.2 with ⟨rfl, rfl⟩ | ⟨g, cap, cur, rfl, _⟩
  · exact ⟨_, _, rfl⟩
  · exact ⟨_, _, rfl⟩

theorem owns_take {w : World} {base : Nat} {e : TypeId} {size g n cap : Nat} {xs : List Value} (h : w.ownsRow base e size (.slice (some ⟨g, 0, none⟩) n cap) n xs) (m : Nat) (hm : m ≤ n) :
    w.ownsRow base e size (.slice (some ⟨g, 0, none⟩) m cap) m (xs.take (m * size)) := by
  have hle : m * size ≤ n * size := Nat.mul_le_mul_right _ hm
  refine ⟨by rw [List.length_take, h.1]; omega, ?_⟩
  rcases h.2 with ⟨h', _⟩ | ⟨g', cap', cur, h', hb, hg, h1, h2, hs, htake⟩
  · simp at h'
  · simp only [Value.slice.injEq, Option.some.injEq, Addr.mk.injEq, and_true, true_and] at h'
    obtain ⟨rfl, rfl⟩ := h'
    refine .inr ⟨g, cap, cur, rfl, hb, hg, by omega, h2, hs, ?_⟩
    rw [← htake, List.take_take, Nat.min_eq_left hle]

theorem owns_mod {F : Nat → Prop} {w w' : World} {e : TypeId} {size n : Nat} {v : Value} {xs : List Value} (h : w.ownsRow 0 e size v n xs) (m : Mod F w w') (hF : ∀ x, v.ownBlock = some x → ¬ F x) : w'.ownsRow 0 e size v n xs := by
  refine ⟨h.1, ?_⟩
  rcases h.2 with h2 | ⟨g, cap, cur, rfl, h1, hg, hr⟩
  · exact .inl h2
  · refine .inr ⟨g, cap, cur, rfl, h1, ?_, hr⟩
    rw [m.block g (Array.getElem?_eq_some_iff.1 hg).1 (hF g rfl)]
    exact hg

theorem grown_below {w w' : World} {row : Option Nat} {B : Nat} (hg : w.grownBy w' row) (hr : ∀ k, row = some k → B ≤ k) (hB : B ≤ w.heap.size) : Below B w w' :=
  ((Mod.refl (fun k => row = some k) w).grown hg (fun k hk _ => hk)).below hB hr

theorem owns_empty (w : World) (T : TypeId) : (w.alloc (.cells #[] T)).ownsRow 0 T 1 (.slice (some ⟨w.heap.size, 0, none⟩) 0 0) 0 [] :=
  ⟨rfl, .inr ⟨w.heap.size, 0, #[], rfl, Nat.zero_le _, heap_alloc_new w _, Nat.le_refl _, by unfold maxLen; omega, rfl, rfl⟩⟩

theorem keepIt {p : Prop} (h : Hid p) : p := h.out

theorem one_ints (z : List Int) : ∀ u ∈ z.map (fun x => Value.int .i64 x), u.oneCell' = true := by
  intro u hu
  obtain ⟨x, _, rfl⟩ := List.mem_map.1 hu
  rfl

theorem owns_row {w : World} {e : TypeId} {v : Value} {z : List Int} (h : w.ownsRow 0 e 1 v z.length (z.map fun x => .int .i64 x)) : ∃ ao cap b, v = .slice ao z.length cap ∧ InRow .i64 w ao z.length b 0 z ∧ ∀ k, v.ownBlock = some k → k = b := by
  by_cases hz : 0 < z.length
  · obtain ⟨g, cap, rfl, _, _, _, hc, _⟩ := owns_form h hz
    refine ⟨_, _, g, rfl, ⟨rfl, fun _ => rfl, fun i hi => ?_⟩, fun k hk => by simpa [Value.ownBlock] using hk.symm⟩
    rw [Nat.zero_add, hc i (by omega)]
    simp [hi]
  · obtain ⟨ao, cap, rfl⟩ := owns_slice h
    refine ⟨ao, cap, (ao.map (·.block)).getD 0, rfl, ⟨rfl, fun h => by omega, fun i hi => by omega⟩, fun k hk => ?_⟩
    cases ao with
    | none => cases hk
    | some a => simpa [Value.ownBlock] using hk.symm

end Go.Proofs.YthhddjknjnjbhaaDoor
