/- Plain facts on the list of a slice's numbers with their indexes, and its sorted form. -/
import Derived.Test.YtebclbpibafkdaaHeapP
namespace Go.Proofs.Ytebclbpibafkdaa
set_option linter.unusedVariables false
set_option linter.unusedSimpArgs false

def sortE : List Ent → List Ent
  | [] => []
  | x :: l => ins x (sortE l)

theorem sortE_perm (l : List Ent) : (sortE l).Perm l := by
  induction l with
  | nil => exact List.Perm.refl _
  | cons x l ih => exact (ins_perm x _).trans (ih.cons x)

theorem sortE_sorted {l : List Ent} (h : l.Nodup) : Sorted (sortE l) := by
  induction l with
  | nil => exact List.Pairwise.nil
  | cons x l ih =>
    rw [List.nodup_cons] at h
    exact ins_sorted (ih h.2) (fun hm => h.1 ((sortE_perm l).mem_iff.1 hm))

theorem sortE_eq {l m : List Ent} (h : l.Nodup) (p : l.Perm m) : sortE l = sortE m :=
  sorted_eq (sortE_sorted h) (sortE_sorted (p.nodup_iff.1 h)) (((sortE_perm l).trans p).trans (sortE_perm m).symm)

theorem sortE_snoc {l : List Ent} {x : Ent} (h : (l ++ [x]).Nodup) : ins x (sortE l) = sortE (l ++ [x]) := by
  have p : (x :: l).Perm (l ++ [x]) := List.perm_append_comm (l₁ := [x])
  exact sortE_eq (l := x :: l) (p.nodup_iff.2 h) p

/-- The numbers with their indexes. -/
def pairs (z : List Int) : List Ent := z.mapIdx fun i k => ((i : Int), k)

theorem pairs_length (z : List Int) : (pairs z).length = z.length := by simp [pairs]

theorem pairs_get (z : List Int) (i : Nat) (h : i < z.length) : (pairs z)[i]? = some ((i : Int), z.getD i 0) := by
  simp [pairs, h]

theorem pairs_getElem (z : List Int) (i : Nat) (h : i < (pairs z).length) : (pairs z)[i] = ((i : Int), z.getD i 0) := by
  have := pairs_get z i (by simpa [pairs_length] using h)
  rw [List.getElem?_eq_getElem h] at this
  exact Option.some.inj this

theorem pairs_mem {z : List Int} {e : Ent} (h : e ∈ pairs z) : ∃ i : Nat, i < z.length ∧ e = ((i : Int), z.getD i 0) := by
  obtain ⟨i, hi, he⟩ := List.getElem_of_mem h
  exact ⟨i, by simpa [pairs_length] using hi, by rw [← he, pairs_getElem]⟩

theorem pairs_nodup (z : List Int) : (pairs z).Nodup := by
  rw [List.nodup_iff_pairwise_ne, List.pairwise_iff_getElem]
  intro i j hi hj hij e
  rw [pairs_getElem, pairs_getElem] at e
  simp only [Prod.mk.injEq] at e
  omega

theorem pairs_take_succ (z : List Int) (k : Nat) (h : k < z.length) : (pairs z).take (k + 1) = (pairs z).take k ++ [((k : Int), z.getD k 0)] := by
  rw [List.take_succ_eq_append_getElem (by rw [pairs_length]; exact h), pairs_getElem]

theorem pairs_drop (z : List Int) (k : Nat) (h : k < z.length) : (pairs z).drop k = ((k : Int), z.getD k 0) :: (pairs z).drop (k + 1) := by
  rw [List.drop_eq_getElem_cons (by rw [pairs_length]; exact h), pairs_getElem]

theorem mem_take_pairs {z : List Int} {k : Nat} {e : Ent} (hk : k ≤ z.length) (h : e ∈ (pairs z).take k) : ∃ i : Nat, i < k ∧ e = ((i : Int), z.getD i 0) := by
  obtain ⟨i, hi, he⟩ := List.getElem_of_mem h
  rw [List.length_take, pairs_length] at hi
  rw [List.getElem_take, pairs_getElem] at he
  exact ⟨i, by omega, he.symm⟩

theorem mem_drop_pairs {z : List Int} {k : Nat} {e : Ent} (h : e ∈ (pairs z).drop k) : ∃ i : Nat, k ≤ i ∧ i < z.length ∧ e = ((i : Int), z.getD i 0) := by
  obtain ⟨i, hi, he⟩ := List.getElem_of_mem h
  rw [List.length_drop, pairs_length] at hi
  rw [List.getElem_drop, pairs_getElem] at he
  exact ⟨k + i, by omega, by omega, he.symm⟩

/-- What has been pushed after k rounds, from the first index on or from the last one on. -/
def part (z : List Int) (back : Bool) (k : Nat) : List Ent := if back then (pairs z).drop (z.length - k) else (pairs z).take k

theorem part_step (z : List Int) (back : Bool) (k : Nat) (h : k < z.length) :
    ins (((if back then z.length - 1 - k else k : Nat) : Int), z.getD (if back then z.length - 1 - k else k) 0) (sortE (part z back k)) = sortE (part z back (k + 1)) := by
  cases back with
  | false =>
    simp only [part, Bool.false_eq_true, if_false]
    rw [pairs_take_succ z k h]
    apply sortE_snoc
    rw [← pairs_take_succ z k h]
    exact (pairs_nodup z).sublist (List.take_sublist _ _)
  | true =>
    simp only [part, if_true]
    have e : z.length - (k + 1) = z.length - 1 - k := by omega
    rw [e, pairs_drop z (z.length - 1 - k) (by omega), show z.length - 1 - k + 1 = z.length - k by omega]
    rfl

theorem part_new (z : List Int) (back : Bool) (k : Nat) (h : k < z.length) : ∀ e ∈ sortE (part z back k), e.1 ≠ ((if back then z.length - 1 - k else k : Nat) : Int) := by
  intro e he
  have he := (sortE_perm _).mem_iff.1 he
  cases back with
  | false =>
    simp only [part, Bool.false_eq_true, if_false] at he ⊢
    obtain ⟨i, hi, rfl⟩ := mem_take_pairs (by omega) he
    simp only; omega
  | true =>
    simp only [part, if_true] at he ⊢
    obtain ⟨i, hi, hi2, rfl⟩ := mem_drop_pairs he
    simp only; omega

theorem part_all (z : List Int) (back : Bool) : sortE (part z back z.length) = sortE (pairs z) := by
  cases back with
  | false => simp only [part, Bool.false_eq_true, if_false]; rw [List.take_of_length_le (by rw [pairs_length]; omega)]
  | true => simp [part]

theorem part_zero (z : List Int) (back : Bool) : sortE (part z back 0) = [] := by
  cases back with
  | false => simp [part, sortE]
  | true =>
    simp only [part, if_true, Nat.sub_zero]
    rw [List.drop_of_length_le (by rw [pairs_length]; omega)]
    rfl

end Go.Proofs.Ytebclbpibafkdaa
