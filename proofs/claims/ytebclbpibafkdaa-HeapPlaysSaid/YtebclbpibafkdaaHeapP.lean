/- Plain facts on lists of entries (index, key): their order, heap order, sorted lists. No program in sight. -/
namespace Go.Proofs.Ytebclbpibafkdaa
set_option linter.unusedVariables false
set_option linter.unusedSimpArgs false

abbrev Ent := Int × Int

def cmpI (a b : Int) : Int := if a < b then -1 else if b < a then 1 else 0
def orI (x y : Int) : Int := if x = 0 then y else x
/-- The order of two entries (index, key): below 0, 0 or above 0. -/
def ordI (a b : Ent) : Int := orI (cmpI a.2 b.2) (cmpI a.1 b.1)

def elt (a b : Ent) : Prop := a.2 < b.2 ∨ (a.2 = b.2 ∧ a.1 < b.1)

instance eltDec (a b : Ent) : Decidable (elt a b) := by unfold elt; infer_instance

theorem ordI_neg (a b : Ent) : ordI a b < 0 ↔ elt a b := by
  unfold ordI orI cmpI elt
  repeat' split
  all_goals omega

theorem ordI_zero (a b : Ent) : ordI a b = 0 ↔ a = b := by
  obtain ⟨a1, a2⟩ := a
  obtain ⟨b1, b2⟩ := b
  unfold ordI orI cmpI
  simp only [Prod.mk.injEq]
  repeat' split
  all_goals omega

theorem elt_irrefl (a : Ent) : ¬ elt a a := by unfold elt; omega
theorem elt_asymm {a b : Ent} (h : elt a b) : ¬ elt b a := by unfold elt at *; omega
theorem elt_trans {a b c : Ent} (h : elt a b) (k : elt b c) : elt a c := by unfold elt at *; omega
theorem nelt_trans {a b c : Ent} (h : ¬ elt a b) (k : ¬ elt b c) : ¬ elt a c := by unfold elt at *; omega
theorem elt_of_ne {a b : Ent} (h : ¬ elt a b) (hne : a ≠ b) : elt b a := by
  obtain ⟨a1, a2⟩ := a
  obtain ⟨b1, b2⟩ := b
  unfold elt at *
  simp only [ne_eq, Prod.mk.injEq] at *
  omega
theorem nelt_of_elt {a b c : Ent} (h : elt a b) (k : ¬ elt c b) : ¬ elt c a := by unfold elt at *; omega

def ent (it : List Ent) (p : Nat) : Ent := it.getD p (0, 0)

theorem ent_eq {it : List Ent} {p : Nat} (h : p < it.length) : ent it p = it[p] := by simp [ent, h]
theorem ent_mem {it : List Ent} {p : Nat} (h : p < it.length) : ent it p ∈ it := by rw [ent_eq h]; exact List.getElem_mem h
theorem mem_ent {it : List Ent} {e : Ent} (h : e ∈ it) : ∃ p, p < it.length ∧ ent it p = e := by
  obtain ⟨p, hp, he⟩ := List.getElem_of_mem h
  exact ⟨p, hp, by rw [ent_eq hp]; exact he⟩

theorem take_snoc_ent {it : List Ent} {m : Nat} (h : it.length = m + 1) : it = it.take m ++ [ent it m] := by
  rw [ent_eq (by omega), ← List.take_succ_eq_append_getElem, List.take_of_length_le (by omega)]

def swapL (it : List Ent) (p q : Nat) : List Ent := (it.set p (ent it q)).set q (ent it p)

theorem swapL_length (it : List Ent) (p q : Nat) : (swapL it p q).length = it.length := by simp [swapL]

theorem ent_swapL {it : List Ent} {p q : Nat} (hp : p < it.length) (hq : q < it.length) (k : Nat) :
    ent (swapL it p q) k = if k = q then ent it p else if k = p then ent it q else ent it k := by
  unfold swapL ent
  simp only [List.getD_eq_getElem?_getD, List.getElem?_set, List.length_set]
  repeat' split
  all_goals first | rfl | (subst_vars; simp_all) | omega

theorem set_perm {α : Type} (l : List α) (p : Nat) (h : p < l.length) (x : α) : (l.set p x).Perm (x :: l.eraseIdx p) := by
  induction l generalizing p with
  | nil => simp at h
  | cons a l ih =>
    cases p with
    | zero => simp
    | succ p =>
      simp only [List.set_cons_succ, List.eraseIdx_cons_succ]
      exact ((ih p (by simpa using h)).cons a).trans (List.Perm.swap _ _ _)

theorem eraseIdx_perm {α : Type} (l : List α) (p : Nat) (h : p < l.length) : l.Perm (l[p] :: l.eraseIdx p) := by
  have := set_perm l p h l[p]
  rwa [List.set_getElem_self] at this

theorem swapL_perm {it : List Ent} {p q : Nat} (hp : p < it.length) (hq : q < it.length) : (swapL it p q).Perm it := by
  apply List.perm_iff_count.2
  intro a
  unfold swapL
  have h1 := (set_perm (it.set p (ent it q)) q (by simpa using hq) (ent it p)).count_eq a
  have h2 := (eraseIdx_perm (it.set p (ent it q)) q (by simpa using hq)).count_eq a
  have h3 := (set_perm it p hp (ent it q)).count_eq a
  have h4 := (eraseIdx_perm it p hp).count_eq a
  have h5 : (it.set p (ent it q))[q]'(by simpa using hq) = if p = q then ent it q else it[q] := by
    rw [List.getElem_set]
  rw [h5] at h2
  rw [ent_eq hp, ent_eq hq] at *
  simp only [List.count_cons] at *
  split at h2 <;> omega

def par (q : Nat) : Nat := (q - 1) / 2

/-- Heap order. -/
def Heapy (it : List Ent) : Prop := ∀ q, 0 < q → q < it.length → ¬ elt (ent it q) (ent it (par q))

def UpInv (it : List Ent) (p : Nat) : Prop :=
  (∀ q, 0 < q → q < it.length → q ≠ p → par q ≠ p → ¬ elt (ent it q) (ent it (par q))) ∧
  (0 < p → ∀ c, 0 < c → c < it.length → par c = p → ¬ elt (ent it c) (ent it (par p)))

def DownInv (it : List Ent) (p : Nat) : Prop :=
  (∀ q, 0 < q → q < it.length → par q ≠ p → ¬ elt (ent it q) (ent it (par q))) ∧
  (0 < p → ∀ c, 0 < c → c < it.length → par c = p → ¬ elt (ent it c) (ent it (par p)))

theorem up_step {it : List Ent} {p : Nat} (hp : p < it.length) (h0 : 0 < p) (hl : elt (ent it p) (ent it (par p))) (h : UpInv it p) : UpInv (swapL it p (par p)) (par p) := by
  have hq : par p < p := by unfold par; omega
  have hql : par p < it.length := by omega
  obtain ⟨A, B⟩ := h
  refine ⟨fun r r0 rl rn rp => ?_, fun hq0 c c0 cl cp => ?_⟩
  · rw [swapL_length] at rl
    rw [ent_swapL hp hql, ent_swapL hp hql]
    have hrp : r ≠ p := fun e => by subst e; exact rp rfl
    rw [if_neg rn, if_neg hrp, if_neg rp]
    by_cases e : par r = p
    · rw [if_pos e]; exact B h0 r r0 rl e
    · rw [if_neg e]; exact A r r0 rl hrp e
  · rw [swapL_length] at cl
    rw [ent_swapL hp hql, ent_swapL hp hql]
    have h1 : par (par p) ≠ par p := by unfold par at *; omega
    have h2 : par (par p) ≠ p := by unfold par at *; omega
    rw [if_neg h1, if_neg h2]
    have hc : c ≠ par p := by intro e; unfold par at *; omega
    rw [if_neg hc]
    have h3 := A (par p) hq0 hql (by omega) h2
    by_cases e : c = p
    · rw [if_pos e]; exact h3
    · rw [if_neg e]
      have h4 := A c c0 cl e (by rw [cp]; omega)
      rw [cp] at h4
      exact nelt_trans h4 h3

theorem up_end {it : List Ent} {p : Nat} (h : UpInv it p) (hn : ¬ (0 < p ∧ elt (ent it p) (ent it (par p)))) : DownInv it p := by
  refine ⟨fun q q0 ql hq => ?_, h.2⟩
  by_cases e : q = p
  · subst e; exact fun hl => hn ⟨q0, hl⟩
  · exact h.1 q q0 ql e hq

theorem down_step {it : List Ent} {p q : Nat} (hp : p < it.length) (hq : q < it.length) (q0 : 0 < q) (hpar : par q = p) (hl : elt (ent it q) (ent it p))
    (hmin : ∀ c, 0 < c → c < it.length → par c = p → ¬ elt (ent it c) (ent it q)) (h : DownInv it p) : DownInv (swapL it p q) q := by
  obtain ⟨A, B⟩ := h
  have hpq : p < q := by unfold par at *; omega
  refine ⟨fun r r0 rl rp => ?_, fun _ c c0 cl cp => ?_⟩
  · rw [swapL_length] at rl
    rw [ent_swapL hp hq, ent_swapL hp hq]
    by_cases e1 : r = q
    · subst e1
      rw [if_pos rfl, hpar, if_neg (by omega), if_pos rfl]
      exact elt_asymm hl
    · rw [if_neg e1, if_neg rp]
      by_cases e2 : r = p
      · subst e2
        have h1 : par r ≠ r := by unfold par; omega
        rw [if_pos rfl, if_neg h1]
        exact B r0 q q0 hq hpar
      · rw [if_neg e2]
        by_cases e3 : par r = p
        · rw [if_pos e3]; exact hmin r r0 rl e3
        · rw [if_neg e3]; exact A r r0 rl e3
  · rw [swapL_length] at cl
    rw [ent_swapL hp hq, ent_swapL hp hq, hpar]
    have h1 : c ≠ q := by intro e; unfold par at *; omega
    have h2 : c ≠ p := by intro e; unfold par at *; omega
    rw [if_neg h1, if_neg h2, if_neg (by omega), if_pos rfl]
    have := A c c0 cl (by rw [cp]; omega)
    rwa [cp] at this

theorem down_end {it : List Ent} {p : Nat} (h : DownInv it p) (hn : ∀ c, 0 < c → c < it.length → par c = p → ¬ elt (ent it c) (ent it p)) : Heapy it := by
  intro q q0 ql
  by_cases e : par q = p
  · rw [e]; exact hn q q0 ql e
  · exact h.1 q q0 ql e

/-- What 'below' finds. -/
def bel1 (it : List Ent) (p : Nat) : Nat := if 2 * p + 1 < it.length ∧ elt (ent it (2 * p + 1)) (ent it p) then 2 * p + 1 else p
def bel2 (it : List Ent) (p : Nat) : Nat := if 2 * p + 2 < it.length ∧ elt (ent it (2 * p + 2)) (ent it (bel1 it p)) then 2 * p + 2 else bel1 it p

theorem bel_none {it : List Ent} {p : Nat} (h : bel2 it p = p) : ∀ c, 0 < c → c < it.length → par c = p → ¬ elt (ent it c) (ent it p) := by
  intro c c0 cl cp
  have hc : c = 2 * p + 1 ∨ c = 2 * p + 2 := by unfold par at cp; omega
  have h1 : bel1 it p = p := by unfold bel2 at h; split at h <;> omega
  rcases hc with rfl | rfl
  · unfold bel1 at h1
    split at h1
    · omega
    · rename_i hn; exact fun hl => hn ⟨cl, hl⟩
  · unfold bel2 at h
    rw [h1] at h
    split at h
    · omega
    · rename_i hn; exact fun hl => hn ⟨cl, hl⟩

theorem bel_some {it : List Ent} {p : Nat} (h : bel2 it p ≠ p) : 0 < bel2 it p ∧ bel2 it p < it.length ∧ par (bel2 it p) = p ∧ elt (ent it (bel2 it p)) (ent it p) ∧
    ∀ c, 0 < c → c < it.length → par c = p → ¬ elt (ent it c) (ent it (bel2 it p)) := by
  have hb1 : bel1 it p = p ∨ (bel1 it p = 2 * p + 1 ∧ 2 * p + 1 < it.length ∧ elt (ent it (2 * p + 1)) (ent it p)) := by
    unfold bel1; split
    · rename_i hh; exact .inr ⟨rfl, hh⟩
    · exact .inl rfl
  have hb1n : ∀ c, c = 2 * p + 1 → c < it.length → ¬ elt (ent it c) (ent it (bel1 it p)) := by
    rintro c rfl cl
    unfold bel1; split
    · exact elt_irrefl _
    · rename_i hn; exact fun hl => hn ⟨cl, hl⟩
  by_cases c2 : 2 * p + 2 < it.length ∧ elt (ent it (2 * p + 2)) (ent it (bel1 it p))
  · have e : bel2 it p = 2 * p + 2 := by unfold bel2; rw [if_pos c2]
    rw [e]
    refine ⟨by omega, c2.1, by unfold par; omega, ?_, ?_⟩
    · rcases hb1 with hb | ⟨hb, _, hl⟩
      · have := c2.2; rwa [hb] at this
      · have := c2.2; rw [hb] at this; exact elt_trans this hl
    · intro c c0 cl cp
      have hc : c = 2 * p + 1 ∨ c = 2 * p + 2 := by unfold par at cp; omega
      rcases hc with rfl | rfl
      · exact nelt_of_elt c2.2 (hb1n _ rfl cl)
      · exact elt_irrefl _
  · have e : bel2 it p = bel1 it p := by unfold bel2; rw [if_neg c2]
    rw [e] at h ⊢
    rcases hb1 with hb | ⟨hb, hlt, hl⟩
    · exact absurd hb h
    · rw [hb]
      refine ⟨by omega, hlt, by unfold par; omega, hl, ?_⟩
      intro c c0 cl cp
      have hc : c = 2 * p + 1 ∨ c = 2 * p + 2 := by unfold par at cp; omega
      rcases hc with rfl | rfl
      · exact elt_irrefl _
      · rw [hb] at c2; exact fun hl => c2 ⟨cl, hl⟩

/-- The root is least. -/
theorem heapy_min {it : List Ent} (h : Heapy it) (q : Nat) (hq : q < it.length) : ¬ elt (ent it q) (ent it 0) := by
  induction q using Nat.strongRecOn with
  | _ q ih =>
    by_cases q0 : q = 0
    · subst q0; exact elt_irrefl _
    · have := ih (par q) (by unfold par; omega) (by unfold par; omega)
      exact nelt_trans (h q (by omega) hq) this

theorem upInv_append {it : List Ent} (h : Heapy it) (x : Ent) : UpInv (it ++ [x]) it.length := by
  refine ⟨fun q q0 ql hq _ => ?_, fun _ c c0 cl cp => ?_⟩
  · simp only [List.length_append, List.length_cons, List.length_nil] at ql
    have e1 : ent (it ++ [x]) q = ent it q := by simp [ent, List.getElem?_append, show q < it.length by omega]
    have e2 : ent (it ++ [x]) (par q) = ent it (par q) := by
      have : par q < it.length := by unfold par; omega
      simp [ent, List.getElem?_append, this]
    rw [e1, e2]
    exact h q q0 (by omega)
  · simp only [List.length_append, List.length_cons, List.length_nil] at cl
    unfold par at cp; omega

/-- An entry is changed: all but the edges at its place are in order. -/
theorem upInv_set {it it' : List Ent} {p : Nat} (h : Heapy it) (hlen : it'.length ≤ it.length) (hp : p < it'.length) (hk : ∀ k, k < it'.length → k ≠ p → ent it' k = ent it k) : UpInv it' p := by
  refine ⟨fun q q0 ql hq hpq => ?_, fun hp0 c c0 cl cp => ?_⟩
  · have hpl : par q < it'.length := by unfold par; omega
    rw [hk q ql hq, hk _ hpl hpq]
    exact h q q0 (by omega)
  · have h1 : c ≠ p := by intro e; unfold par at cp; omega
    have h2 : par p ≠ p := by unfold par; omega
    have h3 : par p < it'.length := by unfold par; omega
    rw [hk c cl h1, hk _ h3 h2]
    have a := h c c0 (by omega)
    rw [cp] at a
    exact nelt_trans a (h p hp0 (by omega))

/-- Sorted lists. -/
def Sorted (S : List Ent) : Prop := S.Pairwise elt

def ins (e : Ent) : List Ent → List Ent
  | [] => [e]
  | x :: l => if elt e x then e :: x :: l else x :: ins e l

theorem ins_perm (e : Ent) (S : List Ent) : (ins e S).Perm (e :: S) := by
  induction S with
  | nil => exact List.Perm.refl _
  | cons x l ih =>
    unfold ins
    split
    · exact List.Perm.refl _
    · exact (ih.cons x).trans (List.Perm.swap _ _ _)

theorem ins_sorted {e : Ent} {S : List Ent} (h : Sorted S) (hne : e ∉ S) : Sorted (ins e S) := by
  induction S with
  | nil => exact List.pairwise_singleton _ _
  | cons x l ih =>
    unfold Sorted at *
    rw [List.pairwise_cons] at h
    unfold ins
    split
    · rename_i hl
      rw [List.pairwise_cons, List.pairwise_cons]
      refine ⟨fun y hy => ?_, h⟩
      rcases List.mem_cons.1 hy with rfl | hy
      · exact hl
      · exact elt_trans hl (h.1 y hy)
    · rename_i hl
      rw [List.pairwise_cons]
      refine ⟨fun y hy => ?_, ih h.2 (fun hm => hne (List.mem_cons_of_mem _ hm))⟩
      rcases List.mem_cons.1 ((ins_perm e l).mem_iff.1 hy) with rfl | hy
      · exact elt_of_ne hl (fun e => hne (by rw [e]; exact List.mem_cons_self))
      · exact h.1 y hy

theorem sorted_eq {S T : List Ent} (h : Sorted S) (k : Sorted T) (p : S.Perm T) : S = T :=
  p.eq_of_pairwise (fun _ _ _ _ a b => absurd b (elt_asymm a)) h k

theorem sorted_filter {S : List Ent} (h : Sorted S) (f : Ent → Bool) : Sorted (S.filter f) := h.filter f

end Go.Proofs.Ytebclbpibafkdaa
