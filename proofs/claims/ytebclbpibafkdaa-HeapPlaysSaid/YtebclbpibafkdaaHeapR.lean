/- What a heap object looks like in memory. -/
import Derived.Test.YtebclbpibafkdaaBase
import Derived.Test.YtebclbpibafkdaaHeapP
namespace Go.Proofs.Ytebclbpibafkdaa
set_option linter.unusedVariables false
set_option linter.unusedSimpArgs false
open Go.RowKit

def ents (it : List Ent) : List Value := it.flatMap fun e => [.int .i64 e.1, .int .i64 e.2]

theorem ents_length (it : List Ent) : (ents it).length = it.length * 2 := by
  induction it with
  | nil => rfl
  | cons e l ih => simp only [ents, List.flatMap_cons, List.length_append, List.length_cons, List.length_nil] at *; omega

theorem ents_append (a b : List Ent) : ents (a ++ b) = ents a ++ ents b := by simp [ents]

theorem ents_get0 (it : List Ent) (p : Nat) (h : p < it.length) : (ents it)[p * 2]? = some (.int .i64 (ent it p).1) := by
  induction it generalizing p with
  | nil => simp at h
  | cons e l ih =>
    cases p with
    | zero => simp [ents, ent]
    | succ p =>
      have := ih p (by simpa using h)
      simp only [ents, List.flatMap_cons, ent] at *
      rw [show (p + 1) * 2 = p * 2 + 1 + 1 by omega]
      simpa using this

theorem ents_get1 (it : List Ent) (p : Nat) (h : p < it.length) : (ents it)[p * 2 + 1]? = some (.int .i64 (ent it p).2) := by
  induction it generalizing p with
  | nil => simp at h
  | cons e l ih =>
    cases p with
    | zero => simp [ents, ent]
    | succ p =>
      have := ih p (by simpa using h)
      simp only [ents, List.flatMap_cons, ent] at *
      rw [show (p + 1) * 2 + 1 = p * 2 + 1 + 1 + 1 by omega]
      simpa using this

theorem ents_set (it : List Ent) (p : Nat) (e : Ent) : ((ents it).set (p * 2) (.int .i64 e.1)).set (p * 2 + 1) (.int .i64 e.2) = ents (it.set p e) := by
  induction it generalizing p with
  | nil => simp [ents]
  | cons x l ih =>
    cases p with
    | zero => simp [ents]
    | succ p =>
      have := ih p
      simp only [ents, List.flatMap_cons] at *
      rw [show (p + 1) * 2 = p * 2 + 1 + 1 by omega]
      simpa using this

theorem set_same {α : Type} {l : List α} {i : Nat} {v : α} (h : l[i]? = some v) : l.set i v = l := by
  apply List.ext_getElem?
  intro k
  rw [List.getElem?_set]
  split
  · subst_vars
    split
    · exact h.symm
    · rename_i hn; rw [List.getElem?_eq_none (by omega)]
  · rfl

theorem ents_set1 (it : List Ent) (p : Nat) (h : p < it.length) (k : Int) : (ents it).set (p * 2 + 1) (.int .i64 k) = ents (it.set p ((ent it p).1, k)) := by
  rw [← ents_set]
  congr 1
  exact (set_same (ents_get0 it p h)).symm

theorem ents_take (it : List Ent) (n : Nat) : (ents it).take (n * 2) = ents (it.take n) := by
  induction it generalizing n with
  | nil => simp [ents]
  | cons x l ih =>
    cases n with
    | zero => simp [ents]
    | succ n =>
      have := ih n
      simp only [ents, List.flatMap_cons, List.take_succ_cons] at *
      rw [show (n + 1) * 2 = n * 2 + 1 + 1 by omega]
      simpa using this

def upd (f : Nat → Nat) (i x : Nat) : Nat → Nat := fun k => if k = i then x else f k

def plRow (pl : Nat → Nat) (j : Nat) : List Value := (List.range 64).map fun k => .int .i64 (pl (64 * j + k) : Nat)
def tbRow (n : Nat) (tb : Nat → Option Nat) : List Value := (List.range n).map fun j => .pointer ((tb j).map fun q => ⟨q, 0, none⟩)

theorem plRow_get (pl : Nat → Nat) (j k : Nat) (h : k < 64) : (plRow pl j)[k]? = some (.int .i64 (pl (64 * j + k) : Nat)) := by simp [plRow, h]
theorem tbRow_get (n : Nat) (tb : Nat → Option Nat) (j : Nat) (h : j < n) : (tbRow n tb)[j]? = some (.pointer ((tb j).map fun q => ⟨q, 0, none⟩)) := by simp [tbRow, h]

theorem plRow_set (pl : Nat → Nat) (i x : Nat) : (plRow pl (i / 64)).set (i % 64) (.int .i64 (x : Nat)) = plRow (upd pl i x) (i / 64) := by
  apply List.ext_getElem?
  intro k
  rw [List.getElem?_set]
  by_cases hk : k < 64
  · simp only [plRow, upd, List.length_map, List.length_range]
    by_cases e : i % 64 = k
    · have : 64 * (i / 64) + k = i := by omega
      simp [e, hk, this]
    · have : 64 * (i / 64) + k ≠ i := by omega
      simp [e, hk, this]
  · simp only [plRow, upd, List.length_map, List.length_range]
    have : ¬ i % 64 = k := by omega
    simp [hk, this]

theorem plRow_other (pl : Nat → Nat) (i x j : Nat) (h : j ≠ i / 64) : plRow (upd pl i x) j = plRow pl j := by
  apply List.map_congr_left
  intro k hk
  have hk' : k < 64 := by simpa using hk
  have : 64 * j + k ≠ i := by omega
  simp [upd, this]

theorem plRow_zero (pl : Nat → Nat) (j : Nat) (h : ∀ k, k < 64 → pl (64 * j + k) = 0) : plRow pl j = List.replicate 64 (.int .i64 0) := by
  apply List.ext_getElem?
  intro k
  by_cases hk : k < 64
  · rw [plRow_get pl j k hk, h k hk, List.getElem?_replicate, if_pos hk]; rfl
  · rw [List.getElem?_eq_none (by simp [plRow]; omega), List.getElem?_eq_none (by rw [List.length_replicate]; omega)]

theorem tbRow_set (n : Nat) (tb : Nat → Option Nat) (j q : Nat) : (tbRow n tb).set j (.pointer (some ⟨q, 0, none⟩)) = tbRow n (fun k => if k = j then some q else tb k) := by
  apply List.ext_getElem?
  intro k
  rw [List.getElem?_set]
  by_cases hk : k < n
  · by_cases e : j = k
    · subst e; simp [tbRow, hk]
    · have : k ≠ j := fun h => e h.symm
      simp [tbRow, hk, e, this]
  · simp [tbRow, hk]
    intro e; omega

/-- A heap: its block, its slots, its items (value and entries), the block of its places, the blocks of these, and the place (from 1 on) of each index. -/
structure HG where
  b : Nat
  slots : Nat
  iv : Value
  it : List Ent
  pb : Nat
  tb : Nat → Option Nat
  pl : Nat → Nat

def HG.np (g : HG) : Nat := (g.slots + 63) / 64

def HG.foot (g : HG) (k : Nat) : Prop := k = g.b ∨ g.iv.ownBlock = some k ∨ k = g.pb ∨ ∃ j, j < g.np ∧ g.tb j = some k

structure HRep (w : World) (g : HG) : Prop where
  hb : Blk w g.b 90 [.pointer (some ⟨g.b, 0, none⟩), .int .i64 (g.slots : Nat), g.iv, .slice (some ⟨g.pb, 0, none⟩) g.np g.np]
  hi : w.ownsRow 0 28 2 g.iv g.it.length (ents g.it)
  hp : Blk w g.pb 111 (tbRow g.np g.tb)
  ht : ∀ j q, j < g.np → g.tb j = some q → Blk w q 113 (plRow g.pl j)
  hn : ∀ j, j < g.np → g.tb j = none → ∀ k, k < 64 → g.pl (64 * j + k) = 0
  hs : g.slots ≤ 65536
  d1 : g.b ≠ g.pb
  d2 : g.iv.ownBlock ≠ some g.b
  d3 : g.iv.ownBlock ≠ some g.pb
  d4 : ∀ j q, j < g.np → g.tb j = some q → q ≠ g.b ∧ q ≠ g.pb ∧ g.iv.ownBlock ≠ some q
  d5 : ∀ j j' q, j < g.np → j' < g.np → g.tb j = some q → g.tb j' = some q → j = j'

theorem HRep.foot_lt {w : World} {g : HG} (h : HRep w g) : ∀ k, g.foot k → k < w.heap.size := by
  rintro k (rfl | hk | rfl | ⟨j, hj, hk⟩)
  · exact h.hb.lt
  · exact (h.hi.lt k hk).2
  · exact h.hp.lt
  · exact (h.ht j k hj hk).lt

theorem owns_same {w w' : World} {base : Nat} {e : TypeId} {size : Nat} {v : Value} {n : Nat} {xs : List Value} (h : w.ownsRow base e size v n xs) (hk : ∀ k, v.ownBlock = some k → w'.heap[k]? = w.heap[k]?) : w'.ownsRow base e size v n xs := by
  refine ⟨h.1, ?_⟩
  rcases h.2 with hn | ⟨g, cap, cur, rfl, hb, hgg, rest⟩
  · exact .inl hn
  · exact .inr ⟨g, cap, cur, rfl, hb, by rw [hk g rfl]; exact hgg, rest⟩

/-- A heap is as it was where none of its blocks has changed. -/
theorem HRep.same {w w' : World} {g : HG} (h : HRep w g) (hk : ∀ k, g.foot k → w'.heap[k]? = w.heap[k]?) : HRep w' g := by
  refine { h with hb := ?_, hi := ?_, hp := ?_, ht := ?_ }
  · have := h.hb; unfold Blk at *; rw [hk _ (.inl rfl)]; exact this
  · exact owns_same h.hi fun k e => hk k (.inr (.inl e))
  · have := h.hp; unfold Blk at *; rw [hk _ (.inr (.inr (.inl rfl)))]; exact this
  · intro j q hj hq
    have := h.ht j q hj hq; unfold Blk at *; rw [hk _ (.inr (.inr (.inr ⟨j, hj, hq⟩)))]; exact this

theorem HRep.mod {F : Nat → Prop} {w w' : World} {g : HG} (h : HRep w g) (m : Mod F w w') (hF : ∀ k, g.foot k → ¬ F k) : HRep w' g :=
  h.same fun k hk => m.block k (h.foot_lt k hk) (hF k hk)

theorem HRep.below {w w' : World} {g : HG} (h : HRep w g) (m : Below w.heap.size w w') : HRep w' g :=
  h.same fun k hk => m.block k (h.foot_lt k hk)

theorem owns_set {w : World} {base : Nat} {e : TypeId} {size g n cap : Nat} {xs : List Value} (h : w.ownsRow base e size (.slice (some ⟨g, 0, none⟩) n cap) n xs) (j : Nat) (hj : j < n * size) (u : Value) :
    (w.setCell ⟨g, j, none⟩ u).ownsRow base e size (.slice (some ⟨g, 0, none⟩) n cap) n (xs.set j u) := by
  refine ⟨by simpa using h.1, ?_⟩
  rcases h.2 with ⟨h', _⟩ | ⟨g', cap', cur, h', hb, hg, h1, h2, hs, htake⟩
  · simp at h'
  · simp only [Value.slice.injEq, Option.some.injEq, Addr.mk.injEq, and_true, true_and] at h'
    obtain ⟨rfl, rfl⟩ := h'
    refine .inr ⟨g, cap, cur.setIfInBounds j u, rfl, hb, ?_, h1, h2, by simpa using hs, ?_⟩
    · simp [World.setCell, Array.getElem?_modify, hg]
    · simp only [Array.toList_setIfInBounds]
      rw [← htake, List.take_set]

theorem owns_form {w : World} {base : Nat} {e : TypeId} {size : Nat} {v : Value} {n : Nat} {xs : List Value} (h : w.ownsRow base e size v n xs) (hn : 0 < n) :
    ∃ g cap, v = .slice (some ⟨g, 0, none⟩) n cap ∧ n ≤ cap ∧ cap ≤ maxLen ∧ g < w.heap.size ∧ (∀ j, j < n * size → w.cell? ⟨g, j, none⟩ = xs[j]?) ∧ (∀ j, w.frozen? ⟨g, j, none⟩ = false) := by
  rcases h.2 with ⟨_, h0⟩ | ⟨g, cap, cur, rfl, hb, hg, h1, h2, hs, htake⟩
  · omega
  · refine ⟨g, cap, rfl, h1, h2, (Array.getElem?_eq_some_iff.1 hg).1, fun j hj => h.cellAt j hj, fun j => by simp [World.frozen?, hg]⟩

theorem owns_slice {w : World} {base : Nat} {e : TypeId} {size : Nat} {v : Value} {n : Nat} {xs : List Value} (h : w.ownsRow base e size v n xs) : ∃ ao cap, v = .slice ao n cap := by
  rcases h.2 with ⟨rfl, rfl⟩ | ⟨g, cap, cur, rfl, _⟩
  · exact ⟨_, _, rfl⟩
  · exact ⟨_, _, rfl⟩

/-- Other entries in the same array. -/
theorem HRep.items {w w' : World} {g : HG} (h : HRep w g) {it' : List Ent} (ho : w'.ownsRow 0 28 2 g.iv it'.length (ents it'))
    (hk : ∀ k, g.foot k → g.iv.ownBlock ≠ some k → w'.heap[k]? = w.heap[k]?) : HRep w' { g with it := it' } := by
  refine { h with hb := ?_, hi := ho, hp := ?_, ht := ?_ }
  · have := h.hb; unfold Blk at *; show w'.heap[g.b]? = _; rw [hk _ (.inl rfl) h.d2]; exact this
  · have := h.hp; unfold Blk at *; show w'.heap[g.pb]? = _; rw [hk _ (.inr (.inr (.inl rfl))) h.d3]; exact this
  · intro j q hj hq
    have := h.ht j q hj hq
    unfold Blk at *
    rw [hk _ (.inr (.inr (.inr ⟨j, hj, hq⟩))) (h.d4 j q hj hq).2.2]
    exact this

/-- A step of a heap. -/
structure HStep (g : HG) (w : World) (g' : HG) (w' : World) : Prop where
  rep : HRep w' g'
  mod : Mod g.foot w w'
  b : g'.b = g.b
  slots : g'.slots = g.slots
  foot : ∀ k, g'.foot k → g.foot k ∨ w.heap.size ≤ k

theorem HStep.refl {w : World} {g : HG} (h : HRep w g) : HStep g w g w := ⟨h, Mod.refl _ _, rfl, rfl, fun _ h => .inl h⟩

theorem HStep.trans {g g1 g2 : HG} {w w1 w2 : World} (h : HStep g w g1 w1) (k : HStep g1 w1 g2 w2) : HStep g w g2 w2 := by
  have hs := h.mod.size
  refine ⟨k.rep, h.mod.trans k.mod fun x hx hf => ?_, k.b.trans h.b, k.slots.trans h.slots, fun x hx => ?_⟩
  · rcases h.foot x hf with a | a
    · exact a
    · omega
  · rcases k.foot x hx with a | a
    · exact h.foot x a
    · exact .inr (by omega)

theorem HStep.below {g g1 : HG} {w w1 w2 : World} (h : HStep g w g1 w1) (k : Below w1.heap.size w1 w2) : HStep g w g1 w2 :=
  ⟨h.rep.below k, h.mod.trans (Mod.of_below (F := fun _ => False) k) (fun _ _ e => e.elim), h.b, h.slots, h.foot⟩

end Go.Proofs.Ytebclbpibafkdaa
