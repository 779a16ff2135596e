/- Plain facts about what is due. -/
import Derived.Test.YtebclbpibafkdaaDue
import Derived.Test.YtebclbpibafkdaaHeapSortsP
namespace Go.Proofs.Ytebclbpibafkdaa
set_option linter.unusedVariables false
set_option linter.unusedSimpArgs false

def isDue (now : Int) (e : Ent) : Bool := decide (e.2 ≤ now)

theorem due_takeWhile (S : List Ent) (now : Int) : S.take (dueN S now) = S.takeWhile (isDue now) := by
  have h : S.takeWhile (isDue now) <+: S := List.takeWhile_prefix _
  exact (List.prefix_iff_eq_take.1 h).symm

theorem due_dropWhile (S : List Ent) (now : Int) : S.drop (dueN S now) = S.dropWhile (isDue now) := by
  have h := List.takeWhile_append_dropWhile (p := isDue now) (l := S)
  have h2 : S.drop (dueN S now) = (S.takeWhile (isDue now) ++ S.dropWhile (isDue now)).drop (dueN S now) := by rw [h]
  rw [h2]
  exact List.drop_left' rfl

theorem due_filter {S : List Ent} (hs : Sorted S) (now : Int) : S.takeWhile (isDue now) = S.filter (isDue now) ∧ S.dropWhile (isDue now) = S.filter (fun e => !isDue now e) := by
  induction S with
  | nil => exact ⟨rfl, rfl⟩
  | cons x l ih =>
    obtain ⟨hx, hl⟩ := List.pairwise_cons.1 hs
    obtain ⟨i1, i2⟩ := ih hl
    by_cases h : isDue now x = true
    · simp [List.takeWhile_cons, List.dropWhile_cons, h, i1, i2]
    · have hall : ∀ y ∈ l, ¬ isDue now y = true := fun y hy => by
        have := hx y hy
        simp only [isDue, decide_eq_true_eq] at h ⊢
        unfold elt at this
        omega
      have f1 : l.filter (isDue now) = [] := List.filter_eq_nil_iff.2 hall
      have f2 : l.filter (fun e => !isDue now e) = l := List.filter_eq_self.2 fun y hy => by simp [hall y hy]
      simp [List.takeWhile_cons, List.dropWhile_cons, h, f1, f2]

theorem mem_sortP {z : List Int} {e : Ent} : e ∈ sortE (pairs z) ↔ ∃ i : Nat, i < z.length ∧ e = ((i : Int), z.getD i 0) := by
  rw [(sortE_perm _).mem_iff]
  refine ⟨pairs_mem, ?_⟩
  rintro ⟨i, hi, rfl⟩
  exact List.mem_of_getElem? (pairs_get z i hi)

theorem sortP_sorted (z : List Int) : Sorted (sortE (pairs z)) := sortE_sorted (pairs_nodup z)

theorem seen_due (z : List Int) (now : Int) (i : Nat) (h : i < z.length) : seenB (sortE (pairs z)) (dueN (sortE (pairs z)) now) i = decide (z.getD i 0 ≤ now) := by
  unfold seenB
  rw [due_takeWhile, (due_filter (sortP_sorted z) now).1]
  by_cases hd : z.getD i 0 ≤ now
  · rw [decide_eq_true hd, List.any_eq_true]
    exact ⟨((i : Int), z.getD i 0), List.mem_filter.2 ⟨mem_sortP.2 ⟨i, h, rfl⟩, by simp only [isDue]; exact decide_eq_true hd⟩, by simp⟩
  · rw [decide_eq_false hd, List.any_eq_false]
    intro e he heq
    obtain ⟨h1, h2⟩ := List.mem_filter.1 he
    obtain ⟨j, hj, rfl⟩ := mem_sortP.1 h1
    simp only [isDue, decide_eq_true_eq, beq_iff_eq] at h2 heq
    have : j = i := by omega
    subst this
    exact hd h2

theorem due_left (z : List Int) (now : Int) (i : Nat) (h : i < z.length) (hd : ¬ z.getD i 0 ≤ now) : ((i : Int), z.getD i 0) ∈ (sortE (pairs z)).drop (dueN (sortE (pairs z)) now) := by
  rw [due_dropWhile, (due_filter (sortP_sorted z) now).2]
  exact List.mem_filter.2 ⟨mem_sortP.2 ⟨i, h, rfl⟩, by simp only [isDue, Bool.not_eq_true', decide_eq_false_iff_not]; exact hd⟩

theorem due_gone (z : List Int) (now : Int) (i : Nat) (hd : z.getD i 0 ≤ now) : ∀ e ∈ (sortE (pairs z)).drop (dueN (sortE (pairs z)) now), e.1 ≠ (i : Int) := by
  rw [due_dropWhile, (due_filter (sortP_sorted z) now).2]
  intro e he heq
  obtain ⟨h1, h2⟩ := List.mem_filter.1 he
  obtain ⟨j, hj, rfl⟩ := mem_sortP.1 h1
  simp only at heq
  have : j = i := by omega
  subst this
  simp only [isDue, Bool.not_eq_true', decide_eq_false_iff_not] at h2
  exact h2 hd

/-- What is due at two times, one after the other. -/
theorem due_twice (S : List Ent) {a b : Int} (h : a ≤ b) : S.take (dueN S a) ++ (S.drop (dueN S a)).take (dueN (S.drop (dueN S a)) b) = S.take (dueN S b) ∧ (S.drop (dueN S a)).drop (dueN (S.drop (dueN S a)) b) = S.drop (dueN S b) := by
  simp only [due_takeWhile, due_dropWhile]
  induction S with
  | nil => exact ⟨rfl, rfl⟩
  | cons x l ih =>
    by_cases hx : isDue a x = true
    · have hy : isDue b x = true := by simp only [isDue, decide_eq_true_eq] at hx ⊢; omega
      simp [List.takeWhile_cons, List.dropWhile_cons, hx, hy, ih.1, ih.2]
    · simp [List.takeWhile_cons, List.dropWhile_cons, hx]

/-- What is left is not due at that time, nor at an earlier one. -/
theorem due_none (S : List Ent) {a b : Int} (h : a ≤ b) : dueN (S.drop (dueN S b)) a = 0 := by
  rw [due_dropWhile]
  induction S with
  | nil => rfl
  | cons x l ih =>
    by_cases hx : isDue b x = true
    · simp [List.dropWhile_cons, hx, ih]
    · have hy : ¬ x.2 ≤ a := by simp only [isDue, decide_eq_true_eq] at hx; omega
      simp [List.dropWhile_cons, hx, dueN, hy]

theorem due_head {S : List Ent} {a : Int} {e : Ent} {l : List Ent} (h : S.drop (dueN S a) = e :: l) : a < e.2 := by
  have := due_none S (a := a) (b := a) (Int.le_refl _)
  rw [h] at this
  unfold dueN at this
  by_cases hx : e.2 ≤ a
  · simp [List.takeWhile_cons, hx] at this
  · omega

end Go.Proofs.Ytebclbpibafkdaa
