/- Rows of k cells an element, before and behind the library's sort. No program in sight. -/
import Derived.Test.YtebclbpibafkdaaBase
import Derived.Shelf.GgSortFunc.RowK
import Derived.Shelf.GgSortFunc.InsertionK
namespace Go.Proofs.Ytebclbpibafkdaa
set_option linter.unusedVariables false
set_option linter.unusedSimpArgs false
open Go.RowKit Go.Sort

/-- The cells of elements, one after the other. -/
def encs {α : Type} (enc : α → List Value) (l : List α) : List Value := l.flatMap enc

theorem encs_length {α : Type} {enc : α → List Value} {k : Nat} (hk : ∀ x, (enc x).length = k) (l : List α) : (encs enc l).length = l.length * k := by
  unfold encs
  induction l with
  | nil => simp
  | cons a l ih => rw [List.flatMap_cons, List.length_append, hk, ih, List.length_cons, Nat.succ_mul]; omega

theorem encs_get {α : Type} {enc : α → List Value} {k : Nat} (hk : ∀ x, (enc x).length = k) (k0 : 0 < k) (l : List α) (t : Nat) (x : α) (hx : l[t / k]? = some x) : (encs enc l)[t]? = (enc x)[t % k]? := by
  induction l generalizing t with
  | nil => simp at hx
  | cons a l ih =>
    unfold encs
    rw [List.flatMap_cons]
    by_cases h : t < k
    · have h0 : t / k = 0 := Nat.div_eq_of_lt h
      rw [h0] at hx
      simp only [List.getElem?_cons_zero, Option.some.injEq] at hx
      subst hx
      rw [List.getElem?_append_left (by rw [hk]; exact h), Nat.mod_eq_of_lt h]
    · have h1 : t / k = (t - k) / k + 1 := by rw [← Nat.sub_add_cancel (Nat.le_of_not_lt h)]; rw [Nat.add_div_right _ k0]; simp
      rw [h1, List.getElem?_cons_succ] at hx
      rw [List.getElem?_append_right (by rw [hk]; omega), hk]
      have := ih (t - k) hx
      unfold encs at this
      rw [this]
      congr 1
      conv => rhs; rw [← Nat.sub_add_cancel (Nat.le_of_not_lt h), Nat.add_mod_right]

theorem flatK_encs {α : Type} [Inhabited α] {enc : α → List Value} {k : Nat} (hk : ∀ x, (enc x).length = k) (d : Array α) : (flatK enc k d).toList = encs enc d.toList := by
  apply List.ext_getElem?
  intro t
  by_cases ht : t < d.size * k
  · have k0 : 0 < k := by
      rcases Nat.eq_zero_or_pos k with h | h
      · subst h; simp at ht
      · exact h
    have h1 : t / k < d.size := (Nat.div_lt_iff_lt_mul k0).2 ht
    have hx : d.toList[t / k]? = some d[t / k]! := by
      rw [getElem!_pos d _ h1]; simp [h1]
    rw [encs_get hk k0 _ t _ hx]
    have h2 : t % k < (enc d[t / k]!).length := by rw [hk]; exact Nat.mod_lt _ k0
    have h3 : (flatK enc k d)[t]? = some (flatK enc k d)[t]! := by
      rw [getElem!_pos _ t (by simpa using ht), Array.getElem?_eq_getElem (by simpa using ht)]
    rw [Array.getElem?_toList, h3, get_flatK enc k d t ht, List.getElem?_eq_getElem h2, getElem!_pos (enc d[t / k]!) (t % k) h2]
  · rw [List.getElem?_eq_none (by rw [Array.length_toList, size_flatK]; omega), List.getElem?_eq_none (by rw [encs_length hk, Array.length_toList]; omega)]

/-- A row of the program's own is held, as the sort asks it. -/
theorem holdsK_of {α : Type} [Inhabited α] {enc : α → List Value} {k : Nat} (hk : ∀ x, (enc x).length = k) {w : World} {e : TypeId} {g cap : Nat} {l : List α} (h : w.ownsRow 0 e k (.slice (some ⟨g, 0, none⟩) l.length cap) l.length (encs enc l)) :
    HoldsK enc k w g 0 l.toArray := by
  rcases h.2 with ⟨h', _⟩ | ⟨g', cap', cur, h', _, hg, hnc, hcm, hs, htake⟩
  · simp at h'
  · simp only [Value.slice.injEq, Option.some.injEq, Addr.mk.injEq, and_true, true_and] at h'
    obtain ⟨rfl, rfl⟩ := h'
    intro j hj
    rw [Nat.zero_add]
    have hj' : j < l.length * k := by simpa using hj
    refine ⟨?_, by simp [World.frozen?, hg]⟩
    have hF : (flatK enc k l.toArray)[j]? = (encs enc l)[j]? := by
      rw [← Array.getElem?_toList, flatK_encs hk]
    have hl : (encs enc l)[j]? = some (flatK enc k l.toArray)[j]! := by
      rw [← hF, getElem!_pos _ j hj, Array.getElem?_eq_getElem hj]
    rw [← htake, List.getElem?_take, if_pos hj'] at hl
    show w.cell? ⟨g, j, none⟩ = some (id _)
    simp only [World.cell?, hg, id]
    simpa using hl

/-- Behind the sort the row is the program's own, and holds what the sort laid. -/
theorem owns_sorted {α : Type} [Inhabited α] {enc : α → List Value} {k : Nat} (hk : ∀ x, (enc x).length = k) {w : World} {e : TypeId} {g cap : Nat} {l l' : List α} (h : w.ownsRow 0 e k (.slice (some ⟨g, 0, none⟩) l.length cap) l.length (encs enc l))
    (hl : l'.length = l.length) (n : Nat) (os : Array Obj) : (sortWorldK enc k w g 0 n l'.toArray os).ownsRow 0 e k (.slice (some ⟨g, 0, none⟩) l'.length cap) l'.length (encs enc l') := by
  refine ⟨encs_length hk l', ?_⟩
  have hH := holdsK_of hk h
  rcases h.2 with ⟨h', _⟩ | ⟨g', cap', cur, h', hb, hg, hnc, hcm, hs, htake⟩
  · simp at h'
  · simp only [Value.slice.injEq, Option.some.injEq, Addr.mk.injEq, and_true, true_and] at h'
    obtain ⟨rfl, rfl⟩ := h'
    have hlt : g < w.heap.size := (Array.getElem?_eq_some_iff.1 hg).1
    refine .inr ⟨g, cap, putCells id 0 (flatK enc k l'.toArray) cur, rfl, hb, ?_, by omega, hcm, by simp [putCells, hs], ?_⟩
    · unfold sortWorldK grow putRowK putRow mapBlock
      simp only
      rw [Array.getElem?_append_left (by simpa [Go.Sort.ahead] using hlt), Array.getElem?_modify, if_pos rfl]
      have : (Go.Sort.ahead w n).heap[g]? = some (Obj.cells cur e (0, 0)) := hg
      rw [this]; rfl
    · apply List.ext_getElem?
      intro j
      rw [List.getElem?_take]
      by_cases hj : j < l'.length * k
      · have hjc : j < cur.size := by rw [hs]; exact Nat.lt_of_lt_of_le hj (Nat.mul_le_mul_right _ (by omega))
        rw [if_pos hj]
        have hF : (encs enc l')[j]? = some (flatK enc k l'.toArray)[j]! := by
          rw [← show (flatK enc k l'.toArray).toList = encs enc l' from flatK_encs hk _, Array.getElem?_toList, getElem!_pos _ j (by simpa using hj), Array.getElem?_eq_getElem (by simpa using hj)]
        rw [hF]
        have h2 : j < l'.length * k := hj
        simp [putCells, Array.getElem?_mapIdx, hjc, h2]
      · rw [if_neg hj, List.getElem?_eq_none (by rw [encs_length hk]; omega)]

/-- Only the row's block and new ones have changed. -/
theorem mod_sorted {α : Type} [Inhabited α] {enc : α → List Value} {k : Nat} (w : World) (g n : Nat) (d : Array α) (os : Array Obj) : Mod (fun x => x = g) w (sortWorldK enc k w g 0 n d os) := by
  refine ⟨rfl, rfl, rfl, ?_, fun x hx hne => ?_⟩
  · unfold sortWorldK grow; simp [putRowK, Go.Sort.ahead]
  · unfold sortWorldK grow putRowK putRow mapBlock
    simp only
    rw [Array.getElem?_append_left (by simpa [Go.Sort.ahead] using hx), Array.getElem?_modify, if_neg (fun e => hne e.symm)]
    rfl

end Go.Proofs.Ytebclbpibafkdaa
