/- Plain facts for ExpiryOrder: what is due at the time of the first entry. -/
import Derived.Test.YtebclbpibafkdaaDueP
namespace Go.Proofs.Ytebclbpibafkdaa
set_option linter.unusedVariables false
set_option linter.unusedSimpArgs false

theorem ent_drop (S : List Ent) (j i : Nat) : ent (S.drop j) i = ent S (j + i) := by
  simp [ent, List.getD_eq_getElem?_getD, List.getElem?_drop]

theorem dueN_lt {S : List Ent} {now : Int} {i : Nat} (h : i < dueN S now) : (ent S i).2 ≤ now := by
  have hi : i < (S.takeWhile (isDue now)).length := h
  have hm := List.getElem_mem hi
  have h1 : (S.takeWhile (isDue now))[i] = ent S i := by
    rw [ent_eq (Nat.lt_of_lt_of_le h (dueN_le S now))]
    have h2 := List.prefix_iff_eq_take.1 (List.takeWhile_prefix (isDue now) (l := S))
    have h3 : (S.takeWhile (isDue now))[i]? = S[i]? := by
      rw [h2, List.getElem?_take, if_pos hi]
    rw [List.getElem?_eq_getElem hi, List.getElem?_eq_getElem (Nat.lt_of_lt_of_le h (dueN_le S now))] at h3
    exact Option.some.inj h3
  rw [h1] at hm
  have : isDue now (ent S i) = true := by
    have := List.all_takeWhile (p := isDue now) (l := S)
    rw [List.all_eq_true] at this
    exact this _ hm
  simpa [isDue] using this

structure OrderDue (S : List Ent) (j N : Nat) (K : Int) : Prop where
  pos : 1 ≤ N
  le : j + N ≤ S.length
  key : ∀ i, i < N → (ent S (j + i)).2 = K
  fst : ∀ i, i < N → (((S.drop j).take N).map (·.1)).getD i 0 = (ent S (j + i)).1
  lt : ∀ i, i + 1 < N → (ent S (j + i)).1 < (ent S (j + (i + 1))).1
  drop : (S.drop j).drop N = S.drop (j + N)
  head : ∀ e l, S.drop (j + N) = e :: l → K < e.2

theorem sorted_lt {S : List Ent} (hs : Sorted S) {i k : Nat} (h : i < k) (hk : k < S.length) : elt (ent S i) (ent S k) := by
  rw [ent_eq (by omega), ent_eq hk]
  exact List.pairwise_iff_getElem.1 hs i k (by omega) hk h

theorem order_due {S : List Ent} (hs : Sorted S) {j : Nat} (hj : j < S.length) : OrderDue S j (dueN (S.drop j) (ent S j).2) (ent S j).2 := by
  have hle := dueN_le (S.drop j) (ent S j).2
  rw [List.length_drop] at hle
  have hpos : 1 ≤ dueN (S.drop j) (ent S j).2 := by
    rw [drop_ent j hj]
    simp [dueN, List.takeWhile_cons]
  have hkey : ∀ i, i < dueN (S.drop j) (ent S j).2 → (ent S (j + i)).2 = (ent S j).2 := fun i hi => by
    have h1 := dueN_lt hi
    rw [ent_drop] at h1
    rcases Nat.eq_zero_or_pos i with rfl | h0
    · rfl
    · have := sorted_lt hs (i := j) (k := j + i) (by omega) (by omega)
      unfold elt at this
      omega
  have hdrop : (S.drop j).drop (dueN (S.drop j) (ent S j).2) = S.drop (j + dueN (S.drop j) (ent S j).2) := by rw [List.drop_drop]
  refine ⟨hpos, by omega, hkey, fun i hi => ?_, fun i hi => ?_, hdrop, fun e l h => ?_⟩
  · have : ((S.drop j).take (dueN (S.drop j) (ent S j).2))[i]? = some (ent S (j + i)) := by
      rw [List.getElem?_take, if_pos hi, List.getElem?_drop, ent_eq (by omega), List.getElem?_eq_getElem]
    rw [List.getD_eq_getElem?_getD, List.getElem?_map, this]; rfl
  · have h1 := sorted_lt hs (i := j + i) (k := j + (i + 1)) (by omega) (by omega)
    have h2 := hkey i (by omega)
    have h3 := hkey (i + 1) hi
    unfold elt at h1
    omega
  · rw [← hdrop] at h
    exact due_head h

end Go.Proofs.Ytebclbpibafkdaa
