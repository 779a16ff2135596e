/- linkage: the heights do not decrease; the last cluster. No program in sight. -/
import Derived.Test.YthacjealoomioaaZLkRo
namespace Go.Proofs.Ythacjealoomioaa.Lk
set_option linter.unusedVariables false
set_option linter.unusedSimpArgs false

theorem agg_mem {m : Int} (hm : m = 1 ∨ m = 2) : ∀ l : List Int, l ≠ [] → agg m l ∈ l
  | [], h => absurd rfl h
  | [x], _ => by simp [agg]
  | x :: y :: l, _ => by
    have ih := agg_mem hm (y :: l) (by simp)
    rw [agg_cons (by simp)]
    have : mixE m x (agg m (y :: l)) = x ∨ mixE m x (agg m (y :: l)) = agg m (y :: l) := by
      unfold mixE
      rcases hm with rfl | rfl
      · simp; omega
      · simp; omega
    rcases this with e | e
    · rw [e]; simp
    · rw [e]; exact List.mem_cons_of_mem _ ih

theorem cross_mem' {n : Nat} {d : List Int} {l1 l2 : List Nat} {x : Int} (h : x ∈ cross n d l1 l2) : ∃ i ∈ l1, ∃ j ∈ l2, x = at2 n d i j := by
  unfold cross at h
  simp only [List.mem_flatMap, List.mem_map] at h
  obtain ⟨i, hi, j, hj, rfl⟩ := h
  exact ⟨i, hi, j, hj, rfl⟩

theorem gap_le_den {n : Nat} {m : Int} {d : List Int} (hm : m = 1 ∨ m = 2 ∨ m = 3) (hd : DOk n d) {A B : List Nat} (hA : A ≠ []) (hB : B ≠ []) : 0 ≤ gap m n d A B ∧ gap m n d A B ≤ 1099511627776 * den m A B := by
  have h := gap_bounds (m := m) (M := 1099511627776) (by omega) hd.lim A B
  refine ⟨h.1, ?_⟩
  unfold den
  split
  · rw [← Int.natCast_mul]; exact h.2
  · rename_i h3
    have := agg_mem (m := m) (by omega) _ (cross_ne (n := n) (d := d) hA hB)
    obtain ⟨i, _, j, _, e⟩ := cross_mem' this
    unfold gap
    rw [e]
    have := (hd.lim i j).2
    omega

theorem den_comm (m : Int) (A B : List Nat) : den m A B = den m B A := by
  unfold den
  rw [Int.mul_comm]

theorem den_append (m : Int) (A B C : List Nat) : den m (A ++ B) C = if m = 3 then den m A C + den m B C else 1 := by
  unfold den
  split
  · rw [List.length_append, Int.natCast_add, Int.add_mul]
  · rfl

/-- Not less than h, for a united cluster. -/
theorem lessB_mix {n : Nat} {m : Int} {d : List Int} (hm : m = 1 ∨ m = 2 ∨ m = 3) {A B C : List Nat} (hA : A ≠ []) (hB : B ≠ []) (hC : C ≠ []) {h : Int × Int}
    (h1 : lessB (fr n m d A C) h = false) (h2 : lessB (fr n m d B C) h = false) : lessB (fr n m d (A ++ B) C) h = false := by
  unfold fr lessB at *
  rw [decide_eq_false_iff_not, Int.not_lt] at *
  simp only at *
  rw [gap_append hA hB hC, den_append]
  generalize gap m n d A C = x at *
  generalize gap m n d B C = y at *
  rcases hm with rfl | rfl | rfl
  · simp only [mixE, if_true, den] at *
    rw [if_neg (by decide)] at *
    rcases Int.le_total x y with e | e
    · rw [Int.min_eq_left e]; exact h1
    · rw [Int.min_eq_right e]; exact h2
  · simp only [mixE, den] at *
    rw [if_neg (by decide)] at *
    rw [if_neg (by decide), if_pos trivial]
    rcases Int.le_total x y with e | e
    · rw [Int.max_eq_right e]; exact h2
    · rw [Int.max_eq_left e]; exact h1
  · rw [if_pos rfl]
    simp only [mixE]
    rw [if_neg (by decide), if_neg (by decide), Int.mul_add, Int.add_mul]
    omega

theorem Rd.low' {n : Nat} {m : Int} {d : List Int} (hd : DOk n d) (hm : m = 1 ∨ m = 2 ∨ m = 3) {i a b : Nat} (hi : i + 1 < n) (h : Rd n m d i a b) {p q : Nat} (hpq : p ≠ q) (hp : CL (clS n m d i) p ≠ []) (hq : CL (clS n m d i) q ≠ []) :
    lessB (fr n m d (CL (clS n m d i) p) (CL (clS n m d i) q)) (fr n m d (CL (clS n m d i) a) (CL (clS n m d i) b)) = false := by
  by_cases hlt : p < q
  · exact h.low p q hlt hp hq
  · have e : fr n m d (CL (clS n m d i) p) (CL (clS n m d i) q) = fr n m d (CL (clS n m d i) q) (CL (clS n m d i) p) := by
      have inv := runS_inv hd hm i (by omega)
      unfold fr
      rw [den_comm, gap_comm fun x hx y hy => hd.sym x y (inv.mem_lt hx) (inv.mem_lt hy)]
    rw [e]
    exact h.low q p (by omega) hq hp

theorem heights {n : Nat} {m : Int} {d : List Int} (hd : DOk n d) (hm : m = 1 ∨ m = 2 ∨ m = 3) {i a b a' b' : Nat} (hi : i + 2 < n) (h : Rd n m d i a b) (k : Rd n m d (i + 1) a' b') :
    lessB (fr n m d (CL (clS n m d (i + 1)) a') (CL (clS n m d (i + 1)) b')) (fr n m d (CL (clS n m d i) a) (CL (clS n m d i) b)) = false := by
  have inv := runS_inv hd hm i (by omega)
  have hab := h.lt
  have hbn := h.hb
  have hC : ∀ x, CL (clS n m d (i + 1)) x = if x = b then [] else if x = a then CL (clS n m d i) a ++ CL (clS n m d i) b else CL (clS n m d i) x := by
    intro x
    rw [h.next]
    exact CL_clU (by rw [inv.len]; omega) (by rw [inv.len]; omega) (by omega)
  have ka := k.na
  have kb := k.nb
  have klt := k.lt
  have ea : a' ≠ b := fun e => by rw [hC, if_pos e] at ka; exact ka rfl
  have eb : b' ≠ b := fun e => by rw [hC, if_pos e] at kb; exact kb rfl
  rw [hC, if_neg ea] at ka
  rw [hC, if_neg eb] at kb
  rw [hC, hC, if_neg ea, if_neg eb]
  by_cases e1 : a' = a
  · have e2 : b' ≠ a := by omega
    rw [if_neg e2] at kb
    rw [if_pos e1, if_neg e2]
    exact lessB_mix hm h.na h.nb kb (h.low' hd hm (by omega) (fun e => e2 e.symm) h.na kb) (h.low' hd hm (by omega) (fun e => eb e.symm) h.nb kb)
  · rw [if_neg e1] at ka ⊢
    by_cases e2 : b' = a
    · rw [if_pos e2]
      have e : fr n m d (CL (clS n m d i) a') (CL (clS n m d i) a ++ CL (clS n m d i) b) = fr n m d (CL (clS n m d i) a ++ CL (clS n m d i) b) (CL (clS n m d i) a') := by
        unfold fr
        rw [den_comm, gap_comm fun x hx y hy => hd.sym x y (inv.mem_lt hx) (by rcases List.mem_append.1 hy with hh | hh <;> exact inv.mem_lt hh)]
      rw [e]
      exact lessB_mix hm h.na h.nb ka (h.low' hd hm (by omega) (fun e => e1 e.symm) h.na ka) (h.low' hd hm (by omega) (fun e => ea e.symm) h.nb ka)
    · rw [if_neg e2] at kb ⊢
      exact h.low' hd hm (by omega) (by omega) ka kb

/-- In lowest terms the order is the same. -/
theorem lessB_low {g e g' e' : Int} (hg : 0 ≤ g) (he : 0 < e) (hg' : 0 ≤ g') (he' : 0 < e') : lessB (lowN g e, lowD g e) (lowN g' e', lowD g' e') = lessB (g, e) (g', e') := by
  obtain ⟨h1, _, h3, _⟩ := low_same hg he
  obtain ⟨k1, _, k3, _⟩ := low_same hg' he'
  generalize lowN g e = N at *
  generalize lowD g e = D at *
  generalize lowN g' e' = N' at *
  generalize lowD g' e' = D' at *
  unfold lessB
  simp only
  have s1 : N * D' * (e * e') = g * e' * (D * D') := by
    have : N * D' * (e * e') = (N * e) * (D' * e') := by rw [Int.mul_assoc, Int.mul_left_comm D' e e', ← Int.mul_assoc]
    rw [this, h1, Int.mul_comm D' e', Int.mul_assoc g D, Int.mul_left_comm D e' D', ← Int.mul_assoc]
  have s2 : N' * D * (e * e') = g' * e * (D * D') := by
    have : N' * D * (e * e') = (N' * e') * (D * e) := by rw [Int.mul_comm e e', Int.mul_assoc, Int.mul_left_comm D e' e, ← Int.mul_assoc]
    rw [this, k1, Int.mul_comm D e, Int.mul_assoc g' D', Int.mul_left_comm D' e D, ← Int.mul_assoc, Int.mul_comm D' D]
  have pe : 0 < e * e' := Int.mul_pos he he'
  have pd : 0 < D * D' := Int.mul_pos h3 k3
  by_cases hc : g * e' < g' * e
  · rw [decide_eq_true hc, decide_eq_true]
    apply Int.lt_of_mul_lt_mul_right (a := e * e') _ (Int.le_of_lt pe)
    rw [s1, s2]
    exact Int.mul_lt_mul_of_pos_right hc pd
  · rw [decide_eq_false hc, decide_eq_false]
    intro hh
    apply hc
    have := Int.mul_lt_mul_of_pos_right hh pe
    rw [s1, s2] at this
    exact Int.lt_of_mul_lt_mul_right this (Int.le_of_lt pd)

theorem flatten_nil : ∀ l : List (List Nat), (l.filter fun x => !x.isEmpty) = [] → l.flatten = []
  | [], _ => rfl
  | x :: l, h => by
    cases x with
    | nil => rw [List.filter_cons, if_neg (by simp)] at h; rw [List.flatten_cons, flatten_nil l h]; rfl
    | cons y x => rw [List.filter_cons, if_pos (by simp)] at h; simp at h

theorem LInv.last {n : Nat} {m : Int} {d : List Int} {k : Nat} {sz bt : List Int} {cl : List (List Nat)} (h : LInv n m d k sz bt cl) (hn : 0 < n) (hk : k + 1 = n) : (CL cl 0).length = n := by
  have hl := h.live
  have hlen := h.len
  have h0 : CL cl 0 ≠ [] := by
    have : 0 ∈ cl.flatten := h.perm.mem_iff.2 (List.mem_range.2 hn)
    obtain ⟨l, hl1, hl2⟩ := List.mem_flatten.1 this
    obtain ⟨j, hj⟩ := List.getElem?_of_mem hl1
    have ej : CL cl j = l := by unfold CL; rw [List.getD_eq_getElem?_getD, hj]; rfl
    have := h.least j 0 (by rw [ej]; exact hl2)
    have : j = 0 := by omega
    subst this
    rw [ej]
    intro e
    rw [e] at hl2
    simp at hl2
  have hp := h.perm.length_eq
  rw [List.length_range] at hp
  cases cl with
  | nil => simp at hlen; omega
  | cons x l =>
    have e0 : CL (x :: l) 0 = x := rfl
    rw [e0] at h0 ⊢
    have hx : (!x.isEmpty) = true := by cases x with | nil => exact absurd rfl h0 | cons => rfl
    rw [List.filter_cons, if_pos hx, List.length_cons] at hl
    have hf := flatten_nil l (List.eq_nil_of_length_eq_zero (by omega))
    rw [List.flatten_cons, hf, List.append_nil] at hp
    exact hp

end Go.Proofs.Ythacjealoomioaa.Lk
