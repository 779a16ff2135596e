/- Plain facts for HeapSorts: what has been seen after k pops, and the last one. -/
import Derived.Test.YtebclbpibafkdaaHeapR
import Derived.Test.YtebclbpibafkdaaFillP
namespace Go.Proofs.Ytebclbpibafkdaa
set_option linter.unusedVariables false
set_option linter.unusedSimpArgs false

def seenB (L : List Ent) (k i : Nat) : Bool := (L.take k).any fun e => e.1 == (i : Int)
def seenRow (L : List Ent) (k : Nat) : List Value := (List.range 300).map fun i => .bool (seenB L k i)
def lastE (L : List Ent) (k : Nat) : Ent := if k = 0 then (0, 0) else ent L (k - 1)

theorem seenRow_get (L : List Ent) (k i : Nat) (h : i < 300) : (seenRow L k)[i]? = some (.bool (seenB L k i)) := by simp [seenRow, h]

theorem seenRow_zero (L : List Ent) : seenRow L 0 = List.replicate 300 (.bool false) := by
  apply List.ext_getElem?
  intro i
  by_cases h : i < 300
  · rw [seenRow_get L 0 i h, List.getElem?_replicate, if_pos h]; rfl
  · rw [List.getElem?_eq_none (by simp [seenRow]; omega), List.getElem?_eq_none (by rw [List.length_replicate]; omega)]

theorem seenB_succ (L : List Ent) (k i : Nat) (h : k < L.length) : seenB L (k + 1) i = (seenB L k i || (ent L k).1 == (i : Int)) := by
  unfold seenB
  rw [List.take_succ_eq_append_getElem h, ent_eq h, List.any_append]
  simp only [List.any_cons, List.any_nil, Bool.or_false]

theorem seenRow_set (L : List Ent) (k i : Nat) (h : k < L.length) (hi : (ent L k).1 = (i : Int)) : (seenRow L k).set i (.bool true) = seenRow L (k + 1) := by
  apply List.ext_getElem?
  intro j
  rw [List.getElem?_set]
  by_cases hj : j < 300
  · rw [seenRow_get L k j hj, seenRow_get L (k + 1) j hj, seenB_succ L k j h, hi]
    by_cases e : i = j
    · subst e
      have : i < (seenRow L k).length := by simp [seenRow]; exact hj
      simp [this]
    · have : ((i : Int) == (j : Int)) = false := by simp; omega
      simp [e, this]
  · have h1 : (seenRow L k)[j]? = none := List.getElem?_eq_none (by simp [seenRow]; omega)
    have h2 : (seenRow L (k + 1))[j]? = none := List.getElem?_eq_none (by simp [seenRow]; omega)
    rw [h1, h2]
    split
    · rename_i e
      subst e
      rw [if_neg (by simp [seenRow]; omega)]
    · rfl

theorem seenB_new (z : List Int) (k i : Nat) (h : k < (sortE (pairs z)).length) (hi : (ent (sortE (pairs z)) k).1 = (i : Int)) : seenB (sortE (pairs z)) k i = false := by
  unfold seenB
  rw [List.any_eq_false]
  intro e he heq
  have heq : e.1 = (i : Int) := by simpa using heq
  obtain ⟨j, hj, hje⟩ := List.getElem_of_mem he
  rw [List.length_take] at hj
  rw [List.getElem_take] at hje
  have hs : Sorted (sortE (pairs z)) := sortE_sorted (pairs_nodup z)
  have hlt := List.pairwise_iff_getElem.1 hs j k (by omega) h (by omega)
  rw [ent_eq h] at hi
  have m1 := pairs_mem ((sortE_perm _).mem_iff.1 (List.getElem_mem (l := sortE (pairs z)) (n := j) (by omega)))
  have m2 := pairs_mem ((sortE_perm _).mem_iff.1 (List.getElem_mem h))
  obtain ⟨a, _, ha⟩ := m1
  obtain ⟨b, _, hb⟩ := m2
  rw [ha, hb] at hlt
  rw [hje] at ha
  rw [hb] at hi
  rw [ha] at heq
  simp only at hi heq
  have : a = b := by omega
  subst this
  exact elt_irrefl _ hlt

theorem sortE_pairs_at (z : List Int) (k : Nat) (h : k < (sortE (pairs z)).length) : ∃ i : Nat, i < z.length ∧ ent (sortE (pairs z)) k = ((i : Int), z.getD i 0) := by
  rw [ent_eq h]
  exact pairs_mem ((sortE_perm _).mem_iff.1 (List.getElem_mem h))

theorem sortE_pairs_length (z : List Int) : (sortE (pairs z)).length = z.length := by rw [(sortE_perm _).length_eq, pairs_length]

theorem lastE_lt {L : List Ent} (hs : Sorted L) (k : Nat) (h : k < L.length) (h0 : 0 < k) : elt (lastE L k) (ent L k) := by
  unfold lastE
  rw [if_neg (by omega), ent_eq (by omega), ent_eq h]
  exact List.pairwise_iff_getElem.1 hs (k - 1) k (by omega) h (by omega)

theorem drop_ent {L : List Ent} (k : Nat) (h : k < L.length) : L.drop k = ent L k :: L.drop (k + 1) := by
  rw [List.drop_eq_getElem_cons h, ent_eq h]

theorem lastE_succ (L : List Ent) (k : Nat) : lastE L (k + 1) = ent L k := by unfold lastE; rw [if_neg (by omega)]; rfl

end Go.Proofs.Ytebclbpibafkdaa
