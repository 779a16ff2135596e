/- Plain facts for the reference of layer 35: where a slot is in a list; a list without one place; an entry put in order. -/
import Derived.Test.YtebclbpibafkdaaHeapJ
namespace Go.Proofs.Ytebclbpibafkdaa
set_option linter.unusedVariables false
set_option linter.unusedSimpArgs false

def rfind (i : Int) (L : List Ent) : Int := match L.findIdx? (fun e => e.1 == i) with | some k => (k : Int) | none => -1

theorem rfind_at {i : Int} {L : List Ent} {p : Nat} (hp : p < L.length) (he : (ent L p).1 = i) (hf : ∀ j, j < p → (ent L j).1 ≠ i) : rfind i L = (p : Int) := by
  have : L.findIdx? (fun e => e.1 == i) = some p := by
    rw [List.findIdx?_eq_some_iff_getElem]
    refine ⟨hp, by rw [← ent_eq hp]; simpa using he, fun j hj => ?_⟩
    rw [← ent_eq (by omega)]; simpa using hf j hj
  unfold rfind; rw [this]

theorem rfind_no {i : Int} {L : List Ent} (hf : ∀ j, j < L.length → (ent L j).1 ≠ i) : rfind i L = -1 := by
  have : L.findIdx? (fun e => e.1 == i) = none := by
    rw [List.findIdx?_eq_none_iff]
    intro x hx
    obtain ⟨p, hp, rfl⟩ := mem_ent hx
    simpa using hf p hp
  unfold rfind; rw [this]

theorem rfind_cases (i : Int) (L : List Ent) : (∃ p : Nat, p < L.length ∧ rfind i L = (p : Int) ∧ (ent L p).1 = i) ∨ (rfind i L = -1 ∧ ∀ e ∈ L, e.1 ≠ i) := by
  unfold rfind
  cases h : L.findIdx? (fun e => e.1 == i) with
  | some k =>
    rw [List.findIdx?_eq_some_iff_getElem] at h
    obtain ⟨hk, he, _⟩ := h
    exact .inl ⟨k, hk, rfl, by rw [ent_eq hk]; simpa using he⟩
  | none =>
    rw [List.findIdx?_eq_none_iff] at h
    exact .inr ⟨rfl, fun e he => by simpa using h e he⟩

def wo (k : Int) (L : List Ent) (i : Nat) : List Ent := (List.range i).filterMap fun j : Nat => if (j : Int) = k then none else some (ent L j)

theorem wo_zero (k : Int) (L : List Ent) : wo k L 0 = [] := rfl
theorem wo_skip {k : Int} {L : List Ent} {i : Nat} (h : (i : Int) = k) : wo k L (i + 1) = wo k L i := by
  unfold wo; rw [List.range_succ, List.filterMap_append]; simp [h]
theorem wo_take {k : Int} {L : List Ent} {i : Nat} (h : (i : Int) ≠ k) : wo k L (i + 1) = wo k L i ++ [ent L i] := by
  unfold wo; rw [List.range_succ, List.filterMap_append]; simp [h]
theorem wo_length (k : Int) (L : List Ent) (i : Nat) : (wo k L i).length ≤ i := by
  unfold wo; have := List.length_filterMap_le (fun j : Nat => if (j : Int) = k then none else some (ent L j)) (List.range i); simpa using this

theorem wo_take_lt {k : Int} {L : List Ent} (i : Nat) (hi : i ≤ L.length) (h : ∀ j, j < i → (j : Int) ≠ k) : wo k L i = L.take i := by
  induction i with
  | zero => rfl
  | succ i ih =>
    rw [wo_take (h i (by omega)), ih (by omega) (fun j hj => h j (by omega)), List.take_succ_eq_append_getElem (by omega), ent_eq (by omega)]

theorem wo_all {k : Int} {L : List Ent} (h : k < 0) : wo k L L.length = L := by
  rw [wo_take_lt _ (Nat.le_refl _) (fun j _ => by omega), List.take_length]

theorem wo_at {L : List Ent} (p i : Nat) (hp : p < i) (hi : i ≤ L.length) : wo (p : Int) L i = L.take p ++ (L.take i).drop (p + 1) := by
  induction i with
  | zero => omega
  | succ i ih =>
    by_cases e : p = i
    · subst e
      rw [wo_skip rfl, wo_take_lt _ (by omega) (fun j hj => by omega), List.drop_take]; simp
    · rw [wo_take (by omega), ih (by omega) (by omega), ent_eq (by omega), List.append_assoc]
      congr 1
      rw [List.take_succ_eq_append_getElem (by omega), List.drop_append_of_le_length (by simp; omega)]

/-- Without the place of a slot: without the slot. -/
theorem wo_del {i : Int} {L : List Ent} (hn : (L.map (·.1)).Nodup) {p : Nat} (hp : p < L.length) (he : (ent L p).1 = i) : wo (p : Int) L L.length = del i L := by
  rw [wo_at p _ hp (Nat.le_refl _), List.take_length]
  have e1 : L = L.take p ++ L[p] :: L.drop (p + 1) := by rw [List.getElem_cons_drop, List.take_append_drop]
  have hk : L[p].1 = i := by rw [← ent_eq hp]; exact he
  unfold del
  conv => rhs; rw [e1]
  rw [List.filter_append, List.filter_cons, if_neg (by simp [hk])]
  rw [e1, List.map_append, List.map_cons, List.nodup_append] at hn
  obtain ⟨_, h2, h3⟩ := hn
  congr 1
  · symm; rw [List.filter_eq_self]
    intro a ha
    simp only [bne_iff_ne, ne_eq]
    intro e
    exact h3 a.1 (List.mem_map_of_mem ha) L[p].1 List.mem_cons_self (by rw [e, hk])
  · symm; rw [List.filter_eq_self]
    intro a ha
    simp only [bne_iff_ne, ne_eq]
    intro e
    rw [List.nodup_cons] at h2
    exact h2.1 (List.mem_map.2 ⟨a, ha, by rw [e, hk]⟩)

theorem ins_none {x : Ent} {l : List Ent} (h : ∀ y ∈ l, ¬ elt x y) : ins x l = l ++ [x] := by
  induction l with
  | nil => rfl
  | cons a l ih =>
    unfold ins
    rw [if_neg (h a List.mem_cons_self), ih (fun y hy => h y (List.mem_cons_of_mem _ hy))]; rfl

theorem ins_put {x y : Ent} {l : List Ent} (h : ∃ z ∈ l, elt x z) : ins x (l ++ [y]) = ins x l ++ [y] := by
  induction l with
  | nil => obtain ⟨_, hz, _⟩ := h; cases hz
  | cons a l ih =>
    rw [List.cons_append]
    unfold ins
    by_cases e : elt x a
    · rw [if_pos e, if_pos e]; rfl
    · rw [if_neg e, if_neg e, List.cons_append]
      congr 1
      obtain ⟨z, hz, hl⟩ := h
      rcases List.mem_cons.1 hz with rfl | hz
      · exact absurd hl e
      · exact ih ⟨z, hz, hl⟩

theorem ins_now {x y : Ent} {l : List Ent} (h : ∀ y ∈ l, ¬ elt x y) (he : elt x y) : ins x (l ++ [y]) = (l ++ [x]) ++ [y] := by
  induction l with
  | nil => unfold ins; simp [he]
  | cons a l ih =>
    rw [List.cons_append]
    unfold ins
    rw [if_neg (h a List.mem_cons_self), ih (fun y hy => h y (List.mem_cons_of_mem _ hy))]; rfl

theorem ins_length (x : Ent) (l : List Ent) : (ins x l).length = l.length + 1 := by
  have := (ins_perm x l).length_eq; simpa using this

/-- What has been put after some rounds. -/
structure Putting (x : Ent) (R : List Ent) (i : Nat) (put : Bool) (O : List Ent) : Prop where
  no : put = false → (∀ y ∈ R.take i, ¬ elt x y) ∧ O = R.take i
  yes : put = true → (∃ y ∈ R.take i, elt x y) ∧ O = ins x (R.take i)

theorem Putting.start (x : Ent) (R : List Ent) : Putting x R 0 false [] := ⟨fun _ => ⟨by simp, by simp⟩, fun h => by cases h⟩

theorem take_ent {R : List Ent} {i : Nat} (h : i < R.length) : R.take (i + 1) = R.take i ++ [ent R i] := by
  rw [List.take_succ_eq_append_getElem h, ent_eq h]

theorem Putting.put {x : Ent} {R : List Ent} {i : Nat} {O : List Ent} (h : Putting x R i true O) (hi : i < R.length) : Putting x R (i + 1) true (O ++ [ent R i]) := by
  obtain ⟨⟨y, hy, he⟩, rfl⟩ := h.yes rfl
  refine ⟨fun e => (by cases e), fun _ => ⟨⟨y, ?_, he⟩, ?_⟩⟩
  · rw [take_ent hi]; exact List.mem_append_left _ hy
  · rw [take_ent hi, ins_put ⟨y, hy, he⟩]

theorem Putting.skip {x : Ent} {R : List Ent} {i : Nat} {O : List Ent} (h : Putting x R i false O) (hi : i < R.length) (he : ¬ elt x (ent R i)) : Putting x R (i + 1) false (O ++ [ent R i]) := by
  obtain ⟨hn, rfl⟩ := h.no rfl
  refine ⟨fun _ => ⟨?_, ?_⟩, fun e => (by cases e)⟩
  · rw [take_ent hi]
    intro y hy
    rcases List.mem_append.1 hy with hy | hy
    · exact hn y hy
    · rw [List.mem_singleton] at hy; subst hy; exact he
  · rw [take_ent hi]

theorem Putting.now {x : Ent} {R : List Ent} {i : Nat} {O : List Ent} (h : Putting x R i false O) (hi : i < R.length) (he : elt x (ent R i)) : Putting x R (i + 1) true (O ++ [x] ++ [ent R i]) := by
  obtain ⟨hn, rfl⟩ := h.no rfl
  refine ⟨fun e => (by cases e), fun _ => ⟨⟨ent R i, ?_, he⟩, ?_⟩⟩
  · rw [take_ent hi]; exact List.mem_append_right _ List.mem_cons_self
  · rw [take_ent hi, ins_now hn he]

theorem Putting.endPut {x : Ent} {R O : List Ent} (h : Putting x R R.length true O) : O = ins x R := by
  have := (h.yes rfl).2; rwa [List.take_length] at this

theorem Putting.endNot {x : Ent} {R O : List Ent} (h : Putting x R R.length false O) : O ++ [x] = ins x R := by
  have := h.no rfl; rw [List.take_length] at this; rw [this.2, ins_none this.1]

theorem Putting.len {x : Ent} {R : List Ent} {i : Nat} {put : Bool} {O : List Ent} (h : Putting x R i put O) : O.length ≤ i + 1 := by
  cases put with
  | true => rw [(h.yes rfl).2, ins_length, List.length_take]; omega
  | false => rw [(h.no rfl).2, List.length_take]; omega

end Go.Proofs.Ytebclbpibafkdaa
