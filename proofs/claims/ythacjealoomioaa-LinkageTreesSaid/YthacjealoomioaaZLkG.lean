/- linkage: what holds between the rounds. No program in sight. -/
import Derived.Test.YthacjealoomioaaZMgR
namespace Go.Proofs.Ythacjealoomioaa.Lk
set_option linter.unusedVariables false
set_option linter.unusedSimpArgs false

theorem symTo_sym {n : Nat} {d : List Int} : ∀ {k : Nat}, symTo n d k = true → ∀ i j, i < k → j < k → at2 n d i j = at2 n d j i
  | 0, _, i, j, hi, _ => by omega
  | k + 1, h, i, j, hi, hj => by
    simp only [symTo, Bool.and_eq_true, List.all_eq_true, List.mem_range, decide_eq_true_eq] at h
    obtain ⟨⟨h1, h2⟩, h3⟩ := h
    by_cases ei : i = k
    · by_cases ej : j = k
      · rw [ei, ej]
      · rw [ei]; exact h3 j (by omega)
    · by_cases ej : j = k
      · rw [ej]; exact (h3 i (by omega)).symm
      · exact symTo_sym h1 i j (by omega) (by omega)

theorem symTo_zero {n : Nat} {d : List Int} : ∀ {k : Nat}, symTo n d k = true → ∀ i, i < k → at2 n d i i = 0
  | 0, _, i, hi => by omega
  | k + 1, h, i, hi => by
    simp only [symTo, Bool.and_eq_true, decide_eq_true_eq] at h
    by_cases ei : i = k
    · rw [ei]; exact h.1.2
    · exact symTo_zero h.1.1 i (by omega)

/-- A matrix that Check lets by. -/
structure DOk (n : Nat) (d : List Int) : Prop where
  hn : n ≤ 128
  len : d.length = n * n
  sym : ∀ i j, i < n → j < n → at2 n d i j = at2 n d j i
  zero : ∀ i, i < n → at2 n d i i = 0
  lim : ∀ i j, 0 ≤ at2 n d i j ∧ at2 n d i j ≤ 1099511627776

theorem DOk.of_check {n : Nat} {d : List Int} (h : checkL n d = 0) : DOk n d := by
  unfold checkL at h
  split at h
  · cases h
  rename_i h1
  split at h
  · cases h
  rename_i h2
  split at h
  · cases h
  rename_i h3
  simp only [Int.toNat_natCast, Bool.not_eq_false] at h2 h3
  have hl : d.length = n * n := by
    have : ((n * n : Nat) : Int) = (n : Int) * n := by simp
    omega
  refine ⟨by omega, hl, symTo_sym h2, symTo_zero h2, fun i j => ?_⟩
  unfold at2
  by_cases hx : i * n + j < d.length
  · rw [List.getD_eq_getElem?_getD, List.getElem?_eq_getElem hx]
    unfold inLim at h3
    have := List.all_eq_true.1 h3 _ (List.getElem_mem hx)
    simpa using this
  · rw [List.getD_eq_getElem?_getD, List.getElem?_eq_none (by omega)]
    simp

/-- The clusters, each at the place of its least member. -/
def CL (cl : List (List Nat)) (i : Nat) : List Nat := cl.getD i []

structure LInv (n : Nat) (m : Int) (d : List Int) (k : Nat) (sz bt : List Int) (cl : List (List Nat)) : Prop where
  len : cl.length = n
  szl : sz.length = 128
  szE : ∀ i, sz.getD i 0 = ((CL cl i).length : Int)
  perm : cl.flatten.Perm (List.range n)
  head : ∀ i, CL cl i ≠ [] → (CL cl i).head? = some i
  least : ∀ i, ∀ x ∈ CL cl i, i ≤ x
  btl : bt.length = n * n
  btE : ∀ i j, i < n → j < n → i ≠ j → CL cl i ≠ [] → CL cl j ≠ [] → at2 n bt i j = gap m n d (CL cl i) (CL cl j)
  live : (cl.filter fun l => !l.isEmpty).length + k = n

def clU (cl : List (List Nat)) (a b : Nat) : List (List Nat) := (cl.set a (CL cl a ++ CL cl b)).set b []

theorem CL_lt {cl : List (List Nat)} {i : Nat} (h : CL cl i ≠ []) : i < cl.length := by
  apply Classical.byContradiction
  intro hh
  exact h (by unfold CL; rw [List.getD_eq_getElem?_getD, List.getElem?_eq_none (by omega)]; rfl)

theorem CL_clU {cl : List (List Nat)} {a b i : Nat} (ha : a < cl.length) (hb : b < cl.length) (hab : a ≠ b) :
    CL (clU cl a b) i = if i = b then [] else if i = a then CL cl a ++ CL cl b else CL cl i := by
  unfold clU
  generalize CL cl a ++ CL cl b = u
  unfold CL
  by_cases e1 : i = b
  · subst e1
    rw [if_pos rfl, List.getD_eq_getElem?_getD, List.getElem?_set_self (by simp; omega)]; rfl
  · rw [if_neg e1, List.getD_eq_getElem?_getD, List.getElem?_set_ne (by omega)]
    by_cases e2 : i = a
    · subst e2
      rw [if_pos rfl, List.getElem?_set_self (by omega)]; rfl
    · rw [if_neg e2, List.getElem?_set_ne (by omega), List.getD_eq_getElem?_getD]

theorem split2 {α : Type} {l : List α} {a b : Nat} (hab : a < b) (hb : b < l.length) :
    ∃ l1 A l2 B l3, l = l1 ++ A :: (l2 ++ B :: l3) ∧ l1.length = a ∧ l2.length = b - a - 1 := by
  have e1 : l = l.take a ++ l[a] :: l.drop (a + 1) := by rw [← List.drop_eq_getElem_cons (by omega)]; simp
  have hb2 : b - a - 1 < (l.drop (a + 1)).length := by simp; omega
  have e2 : l.drop (a + 1) = (l.drop (a + 1)).take (b - a - 1) ++ (l.drop (a + 1))[b - a - 1] :: (l.drop (a + 1)).drop (b - a - 1 + 1) := by
    rw [← List.drop_eq_getElem_cons hb2]; exact (List.take_append_drop _ _).symm
  refine ⟨_, _, _, _, _, e1.trans (congrArg (fun z => l.take a ++ l[a] :: z) e2), by simp; omega, ?_⟩
  simp; omega

theorem CL_split {l1 l2 l3 : List (List Nat)} {A B : List Nat} {a b : Nat} (h1 : l1.length = a) (h2 : l2.length = b - a - 1) (hab : a < b) :
    CL (l1 ++ A :: (l2 ++ B :: l3)) a = A ∧ CL (l1 ++ A :: (l2 ++ B :: l3)) b = B ∧ clU (l1 ++ A :: (l2 ++ B :: l3)) a b = l1 ++ (A ++ B) :: (l2 ++ [] :: l3) := by
  have ea : CL (l1 ++ A :: (l2 ++ B :: l3)) a = A := by
    unfold CL
    rw [List.getD_eq_getElem?_getD, List.getElem?_append_right (by omega), show a - l1.length = 0 by omega]; rfl
  have eb : CL (l1 ++ A :: (l2 ++ B :: l3)) b = B := by
    unfold CL
    rw [List.getD_eq_getElem?_getD, List.getElem?_append_right (by omega), show b - l1.length = (b - a - 1) + 1 by omega, List.getElem?_cons_succ, List.getElem?_append_right (by omega), show b - a - 1 - l2.length = 0 by omega]; rfl
  refine ⟨ea, eb, ?_⟩
  unfold clU
  rw [ea, eb]
  rw [List.set_append_right _ _ (by omega), show a - l1.length = 0 by omega, List.set_cons_zero, List.set_append_right _ _ (by omega), show b - l1.length = (b - a - 1) + 1 by omega, List.set_cons_succ, List.set_append_right _ _ (by omega), show b - a - 1 - l2.length = 0 by omega, List.set_cons_zero]

theorem clU_perm {cl : List (List Nat)} {a b : Nat} (hab : a < b) (hb : b < cl.length) : (clU cl a b).flatten.Perm cl.flatten := by
  obtain ⟨l1, A, l2, B, l3, rfl, h1, h2⟩ := split2 hab hb
  rw [(CL_split h1 h2 hab).2.2]
  refine List.perm_iff_count.2 fun x => ?_
  simp [List.count_append]
  omega

theorem clU_live {cl : List (List Nat)} {a b : Nat} (hab : a < b) (hb : b < cl.length) (ha0 : CL cl a ≠ []) (hb0 : CL cl b ≠ []) :
    ((clU cl a b).filter fun l => !l.isEmpty).length + 1 = (cl.filter fun l => !l.isEmpty).length := by
  obtain ⟨l1, A, l2, B, l3, rfl, h1, h2⟩ := split2 hab hb
  have hs := CL_split (A := A) (B := B) (l3 := l3) h1 h2 hab
  rw [hs.2.2]
  rw [hs.1] at ha0
  rw [hs.2.1] at hb0
  have eA : A.isEmpty = false := by cases A with | nil => exact absurd rfl ha0 | cons => rfl
  have eB : B.isEmpty = false := by cases B with | nil => exact absurd rfl hb0 | cons => rfl
  have eAB : (A ++ B).isEmpty = false := by cases A with | nil => exact absurd rfl ha0 | cons => rfl
  simp [List.filter_append, List.filter_cons, eA, eB, eAB]
  omega

theorem two_live {α : Type} (p : α → Bool) : ∀ l : List α, 2 ≤ (l.filter p).length → ∃ (i j : Nat) (x y : α), i < j ∧ l[i]? = some x ∧ l[j]? = some y ∧ p x = true ∧ p y = true
  | [], h => by simp at h
  | z :: l, h => by
    by_cases hz : p z = true
    · rw [List.filter_cons, if_pos hz] at h
      have h1 : 0 < (l.filter p).length := by simp only [List.length_cons] at h; omega
      obtain ⟨y, hy⟩ := List.exists_mem_of_length_pos h1
      obtain ⟨hy1, hy2⟩ := List.mem_filter.1 hy
      obtain ⟨j, hj⟩ := List.getElem?_of_mem hy1
      exact ⟨0, j + 1, z, y, by omega, rfl, by simpa using hj, hz, hy2⟩
    · rw [List.filter_cons, if_neg hz] at h
      obtain ⟨i, j, x, y, h1, h2, h3, h4, h5⟩ := two_live p l h
      exact ⟨i + 1, j + 1, x, y, by omega, by simpa using h2, by simpa using h3, h4, h5⟩

theorem flatten_ge {cl : List (List Nat)} : ∀ {i j : Nat}, i < j → (CL cl i).length + (CL cl j).length ≤ cl.flatten.length := by
  induction cl with
  | nil => intro i j _; simp [CL]
  | cons x l ih =>
    have one : ∀ j, (CL l j).length ≤ l.flatten.length := by
      intro j
      have := ih (i := j) (j := j + 1) (by omega)
      omega
    intro i j hij
    have e : CL (x :: l) j = CL l (j - 1) := by
      unfold CL
      rw [show j = (j - 1) + 1 by omega]; rfl
    rw [e]
    cases i with
    | zero =>
      have := one (j - 1)
      simp only [CL, List.getD_cons_zero, List.flatten_cons, List.length_append]
      unfold CL at this
      omega
    | succ i =>
      have := ih (i := i) (j := j - 1) (by omega)
      have e2 : CL (x :: l) (i + 1) = CL l i := rfl
      rw [e2]
      simp only [List.flatten_cons, List.length_append]
      omega

theorem LInv.start {n : Nat} {m : Int} {d : List Int} (hd : DOk n d) : LInv n m d 0 (onesTo n) d ((List.range n).map fun i => [i]) := by
  have hC : ∀ i, CL ((List.range n).map fun i => [i]) i = if i < n then [i] else [] := by
    intro i
    unfold CL
    rw [List.getD_eq_getElem?_getD, List.getElem?_map]
    by_cases h : i < n
    · rw [if_pos h, List.getElem?_range h]; rfl
    · rw [if_neg h, List.getElem?_eq_none (by simp; omega)]; rfl
  have hn := hd.hn
  refine ⟨by simp, by simp [onesTo]; omega, fun i => ?_, ?_, fun i h => ?_, fun i x hx => ?_, hd.len, fun i j hi hj hij _ _ => ?_, ?_⟩
  · rw [hC]
    unfold onesTo
    by_cases h : i < n
    · rw [if_pos h, List.getD_eq_getElem?_getD, List.getElem?_append_left (by simp; omega)]
      simp [h]
    · rw [if_neg h, List.getD_eq_getElem?_getD, List.getElem?_append_right (by simp; omega)]
      simp [List.getElem?_replicate]
      split <;> rfl
  · have : ∀ l : List Nat, (l.map fun i => [i]).flatten = l := by
      intro l
      induction l with
      | nil => rfl
      | cons x l ih => simp [ih]
    rw [this]
  · rw [hC] at h ⊢
    split
    · rfl
    · rename_i h2; rw [if_neg h2] at h; exact absurd rfl h
  · rw [hC] at hx
    split at hx
    · simp at hx; omega
    · simp at hx
  · rw [hC, hC, if_pos hi, if_pos hj]
    simp [gap, cross, agg]
  · have : ∀ l : List Nat, ((l.map fun i => [i]).filter fun l => !l.isEmpty).length = l.length := by
      intro l
      induction l with
      | nil => rfl
      | cons x l ih => simp [List.filter_cons, ih]
    rw [this]; simp

/-- What the walk asks of the numbers. -/
structure Good (n : Nat) (m : Int) (sz bt : List Int) : Prop where
  szl : sz.length = 128
  szb : ∀ i, 0 ≤ sz.getD i 0 ∧ sz.getD i 0 ≤ 128
  btl : bt.length = n * n
  num : ∀ a b, a < b → b < n → sz.getD a 0 ≠ 0 → 0 < sz.getD b 0 → 0 ≤ at2 n bt a b ∧ at2 n bt a b ≤ 36028797018963968 ∧ 0 < (if m = 3 then sz.getD a 0 * sz.getD b 0 else 1) ∧ (if m = 3 then sz.getD a 0 * sz.getD b 0 else 1) ≤ 16384

theorem LInv.lens {n : Nat} {m : Int} {d : List Int} {k : Nat} {sz bt : List Int} {cl : List (List Nat)} (h : LInv n m d k sz bt cl) {i j : Nat} (hij : i < j) : (CL cl i).length + (CL cl j).length ≤ n := by
  have h1 := flatten_ge (cl := cl) hij
  have h2 := h.perm.length_eq
  rw [List.length_range] at h2
  omega

theorem LInv.len1 {n : Nat} {m : Int} {d : List Int} {k : Nat} {sz bt : List Int} {cl : List (List Nat)} (h : LInv n m d k sz bt cl) (i : Nat) : (CL cl i).length ≤ n := by
  have := h.lens (i := i) (j := i + 1) (by omega)
  omega

theorem gap_lim {n : Nat} {m : Int} {d : List Int} (hd : DOk n d) {l1 l2 : List Nat} (h1 : l1.length ≤ 128) (h2 : l2.length ≤ 128) : 0 ≤ gap m n d l1 l2 ∧ gap m n d l1 l2 ≤ 18014398509481984 := by
  have h := gap_bounds (m := m) (M := 1099511627776) (by omega) hd.lim l1 l2
  have hp : l1.length * l2.length ≤ 128 * 128 := Nat.mul_le_mul h1 h2
  refine ⟨h.1, Int.le_trans h.2 ?_⟩
  generalize l1.length * l2.length = p at *
  omega

theorem LInv.good {n : Nat} {m : Int} {d : List Int} {k : Nat} {sz bt : List Int} {cl : List (List Nat)} (hd : DOk n d) (h : LInv n m d k sz bt cl) : Good n m sz bt := by
  have hn := hd.hn
  refine ⟨h.szl, fun i => ?_, h.btl, fun a b hab hb ha0 hb0 => ?_⟩
  · have := h.len1 i
    rw [h.szE]
    omega
  · rw [h.szE] at ha0 hb0
    have hA : CL cl a ≠ [] := fun e => ha0 (by rw [e]; rfl)
    have hB : CL cl b ≠ [] := fun e => by rw [e] at hb0; simp at hb0
    have g := gap_lim (m := m) hd (l1 := CL cl a) (l2 := CL cl b) (by have := h.len1 a; omega) (by have := h.len1 b; omega)
    rw [h.btE a b (by omega) hb (by omega) hA hB]
    refine ⟨g.1, by omega, ?_⟩
    rw [h.szE, h.szE]
    have la := h.len1 a
    have lb := h.len1 b
    have pa : 0 < (CL cl a).length := List.length_pos_iff.2 hA
    have pb : 0 < (CL cl b).length := List.length_pos_iff.2 hB
    split
    · have p1 := Nat.mul_pos pa pb
      have p2 : (CL cl a).length * (CL cl b).length ≤ 128 * 128 := Nat.mul_le_mul (by omega) (by omega)
      have e : ((CL cl a).length : Int) * ((CL cl b).length : Int) = (((CL cl a).length * (CL cl b).length : Nat) : Int) := by simp
      rw [e]
      omega
    · omega

theorem mixV_E {m x y : Int} (hm : m = 1 ∨ m = 2 ∨ m = 3) (hx : 0 ≤ x ∧ x ≤ 18014398509481984) (hy : 0 ≤ y ∧ y ≤ 18014398509481984) : mixV m x y = mixE m x y := by
  unfold mixV mixE
  split
  · rfl
  · split
    · rfl
    · exact Go.IntWalk.i64_in _ (by omega)

theorem szU_getD {sz : List Int} {a b : Nat} (hl : sz.length = 128) (ha : a < 128) (hb : b < 128) (hab : a ≠ b) (i : Nat) :
    (szU sz a b).getD i 0 = if i = b then 0 else if i = a then sz.getD a 0 + sz.getD b 0 else sz.getD i 0 := by
  unfold szU
  generalize sz.getD a 0 + sz.getD b 0 = u
  by_cases e1 : i = b
  · subst e1
    rw [if_pos rfl, List.getD_eq_getElem?_getD, List.getElem?_set_self (by simp; omega)]; rfl
  · rw [if_neg e1, List.getD_eq_getElem?_getD, List.getElem?_set_ne (by omega)]
    by_cases e2 : i = a
    · subst e2
      rw [if_pos rfl, List.getElem?_set_self (by omega)]; rfl
    · rw [if_neg e2, List.getElem?_set_ne (by omega), List.getD_eq_getElem?_getD]

theorem LInv.mem_lt {n : Nat} {m : Int} {d : List Int} {k : Nat} {sz bt : List Int} {cl : List (List Nat)} (h : LInv n m d k sz bt cl) {i x : Nat} (hx : x ∈ CL cl i) : x < n := by
  have hi : i < cl.length := CL_lt (fun e => by rw [e] at hx; simp at hx)
  have : x ∈ cl.flatten := by
    refine List.mem_flatten.2 ⟨CL cl i, ?_, hx⟩
    unfold CL
    rw [List.getD_eq_getElem?_getD, List.getElem?_eq_getElem hi]
    exact List.getElem_mem hi
  exact List.mem_range.1 (h.perm.mem_iff.1 this)

theorem LInv.step {n : Nat} {m : Int} {d : List Int} {k : Nat} {sz bt : List Int} {cl : List (List Nat)} (hd : DOk n d) (hm : m = 1 ∨ m = 2 ∨ m = 3) (h : LInv n m d k sz bt cl) {a b : Nat} (hab : a < b) (hb : b < n)
    (ha0 : CL cl a ≠ []) (hb0 : CL cl b ≠ []) : LInv n m d (k + 1) (szU sz a b) (mixTo n m sz a b bt n) (clU cl a b) := by
  have hn := hd.hn
  have hl := h.len
  have hC : ∀ i, CL (clU cl a b) i = if i = b then [] else if i = a then CL cl a ++ CL cl b else CL cl i := fun i => CL_clU (by omega) (by omega) (by omega)
  have hne : CL cl a ++ CL cl b ≠ [] := by simp [ha0]
  have okx : ∀ q, q ≠ a → q ≠ b → CL cl q ≠ [] → okU sz a b q := fun q h1 h2 h3 hh => by
    rcases hh with e | e | e
    · rw [h.szE] at e
      have := List.length_pos_iff.2 h3
      omega
    · exact h1 e
    · exact h2 e
  have lim : ∀ i j, 0 ≤ gap m n d (CL cl i) (CL cl j) ∧ gap m n d (CL cl i) (CL cl j) ≤ 18014398509481984 := fun i j =>
    gap_lim hd (by have := h.len1 i; omega) (by have := h.len1 j; omega)
  have mixed : ∀ q, q < n → q ≠ a → q ≠ b → CL cl q ≠ [] → mixV m (at2 n bt a q) (at2 n bt b q) = gap m n d (CL cl a ++ CL cl b) (CL cl q) := by
    intro q hq h1 h2 h3
    rw [h.btE a q (by omega) hq (by omega) ha0 h3, h.btE b q hb hq (by omega) hb0 h3, mixV_E hm (lim _ _) (lim _ _), gap_append ha0 hb0 h3]
  refine ⟨by simp [clU, hl], by simp [szU, h.szl], fun i => ?_, (clU_perm hab (by omega)).trans h.perm, fun i hi => ?_, fun i x hx => ?_, by rw [mixTo_length, h.btl], fun i j hi hj hij hi0 hj0 => ?_, ?_⟩
  · rw [hC, szU_getD h.szl (by omega) (by omega) (by omega)]
    split
    · rfl
    · split
      · rw [h.szE, h.szE]; simp
      · exact h.szE i
  · rw [hC] at hi ⊢
    split
    · rename_i e; rw [if_pos e] at hi; exact absurd rfl hi
    · rename_i e
      rw [if_neg e] at hi
      split
      · rename_i e2
        rw [e2, List.head?_append, h.head a ha0]; rfl
      · rename_i e2
        rw [if_neg e2] at hi
        exact h.head i hi
  · rw [hC] at hx
    split at hx
    · simp at hx
    · split at hx
      · rename_i e2
        rcases List.mem_append.1 hx with hh | hh
        · rw [e2]; exact h.least a x hh
        · have := h.least b x hh; omega
      · exact h.least i x hx
  · rw [hC] at hi0 hj0
    rw [hC, hC]
    have ib : i ≠ b := fun e => by rw [if_pos e] at hi0; exact hi0 rfl
    have jb : j ≠ b := fun e => by rw [if_pos e] at hj0; exact hj0 rfl
    rw [if_neg ib] at hi0 ⊢
    rw [if_neg jb] at hj0 ⊢
    have mx := mixTo_at n m sz a b bt h.btl (by omega) hb (by omega) n (Nat.le_refl _) i j hi hj
    by_cases ia : i = a
    · rw [if_pos ia]
      have ja : j ≠ a := by omega
      rw [if_neg ja] at hj0 ⊢
      rw [mx.1 ia hj (okx j ja jb hj0), mixed j hj ja jb hj0]
    · rw [if_neg ia] at hi0 ⊢
      by_cases ja : j = a
      · rw [if_pos ja]
        rw [mx.2.1 ja hi (okx i ia ib hi0), mixed i hi ia ib hi0]
        refine gap_comm fun p hp q hq => hd.sym p q ?_ (h.mem_lt hq)
        rcases List.mem_append.1 hp with hh | hh
        · exact h.mem_lt hh
        · exact h.mem_lt hh
      · rw [if_neg ja] at hj0 ⊢
        rw [mx.2.2 (fun hh => ia hh.1) (fun hh => ja hh.1)]
        exact h.btE i j hi hj hij hi0 hj0
  · have := clU_live hab (by omega) ha0 hb0
    have := h.live
    omega

/-- The search. -/
def PL (n : Nat) (sz : List Int) (a b : Nat) : Prop := a < b ∧ b < n ∧ sz.getD a 0 ≠ 0 ∧ 0 < sz.getD b 0

def BOk (n : Nat) (m : Int) (sz bt : List Int) (s : Bs) : Prop := s = Bs.none ∨ ∃ a b : Nat, PL n sz a b ∧ s = ⟨a, b, (distL n m sz bt a b).1, (distL n m sz bt a b).2⟩

theorem BOk.upd {n : Nat} {m : Int} {sz bt : List Int} {s : Bs} (h : BOk n m sz bt s) {a b : Nat} (hp : PL n sz a b) : BOk n m sz bt (s.upd a b (distL n m sz bt a b)) := by
  unfold Bs.upd
  split
  · exact .inr ⟨a, b, hp, rfl⟩
  · exact h

theorem upd_some {s : Bs} (a b : Nat) (f : Int × Int) : s.upd a b f ≠ Bs.none := by
  unfold Bs.upd
  intro h
  split at h
  · have := congrArg Bs.a h
    simp only [Bs.none] at this
    omega
  · rename_i hh
    rw [h] at hh
    exact hh (.inl (by decide))

theorem bestRow_ok {n : Nat} {m : Int} {sz bt : List Int} {a : Nat} (ha0 : sz.getD a 0 ≠ 0) : ∀ {s : Bs}, BOk n m sz bt s → ∀ b, b ≤ n → BOk n m sz bt (bestRow n m sz bt s a b)
  | s, h, 0, _ => h
  | s, h, b + 1, hb => by
    rw [bestRow]
    split
    · rename_i hh
      exact (bestRow_ok ha0 h b (by omega)).upd ⟨hh.1, by omega, ha0, hh.2⟩
    · exact bestRow_ok ha0 h b (by omega)

theorem bestTo_ok (n : Nat) (m : Int) (sz bt : List Int) : ∀ a, BOk n m sz bt (bestTo n m sz bt a)
  | 0 => .inl rfl
  | a + 1 => by
    rw [bestTo]
    split
    · exact bestTo_ok n m sz bt a
    · rename_i h
      exact bestRow_ok h (bestTo_ok n m sz bt a) n (Nat.le_refl _)

theorem bestRow_keep {n : Nat} {m : Int} {sz bt : List Int} {a : Nat} {s : Bs} (h : s ≠ Bs.none) : ∀ b, bestRow n m sz bt s a b ≠ Bs.none
  | 0 => h
  | b + 1 => by
    rw [bestRow]
    split
    · exact upd_some _ _ _
    · exact bestRow_keep h b

theorem bestRow_some {n : Nat} {m : Int} {sz bt : List Int} {s : Bs} {a b0 : Nat} (hab : a < b0) (hs : 0 < sz.getD b0 0) : ∀ b, b0 < b → bestRow n m sz bt s a b ≠ Bs.none
  | 0, h => by omega
  | b + 1, h => by
    rw [bestRow]
    by_cases e : b = b0
    · rw [if_pos (by rw [e]; exact ⟨hab, hs⟩)]
      exact upd_some _ _ _
    · split
      · exact upd_some _ _ _
      · exact bestRow_some hab hs b (by omega)

theorem bestTo_some {n : Nat} {m : Int} {sz bt : List Int} {a0 b0 : Nat} (hp : PL n sz a0 b0) : ∀ a, a0 < a → bestTo n m sz bt a ≠ Bs.none
  | 0, h => by omega
  | a + 1, h => by
    rw [bestTo]
    by_cases e : a = a0
    · rw [if_neg (by rw [e]; exact hp.2.2.1)]
      exact bestRow_some (by rw [e]; exact hp.1) hp.2.2.2 n hp.2.1
    · have := bestTo_some (m := m) (bt := bt) hp a (by omega)
      split
      · exact this
      · exact bestRow_keep this n

theorem LInv.best {n : Nat} {m : Int} {d : List Int} {k : Nat} {sz bt : List Int} {cl : List (List Nat)} (h : LInv n m d k sz bt cl) (hk : k + 1 < n) :
    ∃ a b : Nat, PL n sz a b ∧ bestTo n m sz bt n = ⟨a, b, (distL n m sz bt a b).1, (distL n m sz bt a b).2⟩ := by
  have hlive := h.live
  obtain ⟨i, j, x, y, hij, hi, hj, hx, hy⟩ := two_live (fun l : List Nat => !l.isEmpty) cl (by omega)
  have hjl := (List.getElem?_eq_some_iff.1 hj).1
  have e1 : CL cl i = x := by unfold CL; rw [List.getD_eq_getElem?_getD, hi]; rfl
  have e2 : CL cl j = y := by unfold CL; rw [List.getD_eq_getElem?_getD, hj]; rfl
  have hx0 : 0 < x.length := by cases x with | nil => cases hx | cons => simp
  have hy0 : 0 < y.length := by cases y with | nil => cases hy | cons => simp
  have hp : PL n sz i j := ⟨hij, by rw [← h.len]; exact hjl, by rw [h.szE, e1]; omega, by rw [h.szE, e2]; omega⟩
  rcases bestTo_ok n m sz bt n with hh | hh
  · exact absurd hh (bestTo_some hp n (by have := hp.2.1; omega))
  · exact hh

theorem LInv.ne_of_PL {n : Nat} {m : Int} {d : List Int} {k : Nat} {sz bt : List Int} {cl : List (List Nat)} (h : LInv n m d k sz bt cl) {a b : Nat} (hp : PL n sz a b) : CL cl a ≠ [] ∧ CL cl b ≠ [] := by
  obtain ⟨h1, h2, h3, h4⟩ := hp
  rw [h.szE] at h3 h4
  exact ⟨fun e => h3 (by rw [e]; rfl), fun e => by rw [e] at h4; simp at h4⟩

/-- The clusters after k rounds. -/
def clS (n : Nat) (m : Int) (d : List Int) : Nat → List (List Nat)
  | 0 => (List.range n).map fun i => [i]
  | k + 1 => clU (clS n m d k) (bestTo n m (runS n m d k).sz (runS n m d k).bt n).a.toNat (bestTo n m (runS n m d k).sz (runS n m d k).bt n).b.toNat

theorem runS_inv {n : Nat} {m : Int} {d : List Int} (hd : DOk n d) (hm : m = 1 ∨ m = 2 ∨ m = 3) : ∀ k, k + 1 ≤ n ∨ k = 0 → LInv n m d k (runS n m d k).sz (runS n m d k).bt (clS n m d k)
  | 0, _ => LInv.start hd
  | k + 1, hk => by
    have ih := runS_inv hd hm k (by omega)
    obtain ⟨a, b, hp, hs⟩ := ih.best (by omega)
    have hne := ih.ne_of_PL hp
    have := ih.step hd hm hp.1 hp.2.1 hne.1 hne.2
    simp only [runS, clS, hs, Int.toNat_natCast]
    exact this

theorem runS_ms_length (n : Nat) (m : Int) (d : List Int) : ∀ k, (runS n m d k).ms.length = k
  | 0 => rfl
  | k + 1 => by simp only [runS, List.length_append, List.length_singleton, runS_ms_length n m d k]

end Go.Proofs.Ythacjealoomioaa.Lk
