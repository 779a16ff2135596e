/- linkage: all distances equal: the merges. No program in sight. -/
import Derived.Test.YthhddjknjnjbhaaDoorLkEvP
import Derived.Test.YthhddjknjnjbhaaDoorLkBs
import Derived.Test.YthhddjknjnjbhaaDoorLkV
namespace Go.Proofs.YthhddjknjnjbhaaDoor
set_option linter.unusedVariables false
set_option linter.unusedSimpArgs false

theorem cross_mem {n : Nat} {d : List Int} {l1 l2 : List Nat} {x : Int} (h : x ∈ cross n d l1 l2) : ∃ i ∈ l1, ∃ j ∈ l2, x = at2 n d i j := by
  unfold cross at h
  simp only [List.mem_flatMap, List.mem_map] at h
  obtain ⟨i, hi, j, hj, rfl⟩ := h
  exact ⟨i, hi, j, hj, rfl⟩

theorem gap_const {m v : Int} {n : Nat} {d : List Int} {l1 l2 : List Nat} (hm : m = 1 ∨ m = 2 ∨ m = 3) (h1 : l1 ≠ []) (h2 : l2 ≠ []) (h : ∀ i ∈ l1, ∀ j ∈ l2, at2 n d i j = v) :
    gap m n d l1 l2 = v * (if m = 3 then (l1.length : Int) * (l2.length : Int) else 1) := by
  unfold gap
  rw [agg_const (v := v) _ (cross_ne h1 h2) (fun x hx => by obtain ⟨i, hi, j, hj, rfl⟩ := cross_mem hx; exact h i hi j hj), cross_length]
  rcases hm with rfl | rfl | rfl
  · simp
  · simp
  · simp

def evC (n q i : Nat) : List Nat := if i = 0 ∧ 0 < n then List.range (q + 1) else if i ≤ q then [] else if i < n then [i] else []

def evM (v : Int) (i : Nat) : Mg := ⟨0, ((i + 1 : Nat) : Int), v, 1, ((i + 2 : Nat) : Int)⟩

theorem low_mul {v e : Int} (hv : 0 ≤ v) (he : 0 < e) : lowN (v * e) e = v ∧ lowD (v * e) e = 1 := by
  obtain ⟨a, rfl⟩ := Int.eq_ofNat_of_zero_le hv
  obtain ⟨b, rfl⟩ := Int.eq_ofNat_of_zero_le (Int.le_of_lt he)
  unfold lowN lowD
  have e1 : ((a : Int) * (b : Int)).toNat = a * b := by rw [← Int.natCast_mul]; exact Int.toNat_natCast _
  rw [e1, Int.toNat_natCast, Nat.gcd_mul_left_left]
  have hb : (b : Int) ≠ 0 := by omega
  exact ⟨Int.mul_ediv_cancel _ hb, Int.ediv_self hb⟩

theorem even_rounds {n : Nat} {m v : Int} {d : List Int} (hd : DOk n d) (hm : m = 1 ∨ m = 2 ∨ m = 3) (hv0 : 0 ≤ v) (hv : ∀ i j, i < n → j < n → i ≠ j → at2 n d i j = v) : ∀ q, q + 1 ≤ n ∨ q = 0 →
    (∀ i, CL (clS n m d q) i = evC n q i) ∧ (runS n m d q).ms = (List.range q).map (evM v)
  | 0, _ => by
    refine ⟨fun i => ?_, rfl⟩
    show CL ((List.range n).map fun i => [i]) i = _
    unfold CL evC
    rw [List.getD_eq_getElem?_getD, List.getElem?_map]
    by_cases h : i < n
    · rw [List.getElem?_range h]
      by_cases h0 : i = 0
      · subst h0
        rw [if_pos ⟨rfl, h⟩]; rfl
      · rw [if_neg (by omega), if_neg (by omega), if_pos h]; rfl
    · rw [List.getElem?_eq_none (by simp; omega), if_neg (by omega), if_neg h]
      simp
  | q + 1, hq => by
    obtain ⟨ihC, ihM⟩ := even_rounds hd hm hv0 hv q (by omega)
    have inv := runS_inv hd hm q (by omega)
    have hqn : q + 1 < n := by omega
    have hC0 : evC n q 0 = List.range (q + 1) := by unfold evC; rw [if_pos ⟨rfl, by omega⟩]
    have hC1 : evC n q (q + 1) = [q + 1] := by unfold evC; rw [if_neg (by omega), if_neg (by omega), if_pos hqn]
    have ne0 : CL (clS n m d q) 0 ≠ [] := by rw [ihC, hC0]; simp
    have ne1 : CL (clS n m d q) (q + 1) ≠ [] := by rw [ihC, hC1]; simp
    have hp0 : PL n (runS n m d q).sz 0 (q + 1) := inv.PL_iff.2 ⟨by omega, ne0, ne1⟩
    have hmem : ∀ a x, x ∈ evC n q a → (a = 0 ∧ x ≤ q) ∨ (q < a ∧ x = a) := by
      intro a x hx
      unfold evC at hx
      split at hx
      · rename_i h0
        have := List.mem_range.1 hx
        exact .inl ⟨h0.1, by omega⟩
      · split at hx
        · simp at hx
        · split at hx
          · rename_i h1 h2
            simp at hx
            exact .inr ⟨by omega, hx⟩
          · simp at hx
    have hdist : ∀ a b, PL n (runS n m d q).sz a b → distL n m (runS n m d q).sz (runS n m d q).bt a b = (v * (if m = 3 then ((CL (clS n m d q) a).length : Int) * ((CL (clS n m d q) b).length : Int) else 1), if m = 3 then ((CL (clS n m d q) a).length : Int) * ((CL (clS n m d q) b).length : Int) else 1) := by
      intro a b hp
      have hne := inv.ne_of_PL hp
      rw [inv.dist hp, gap_const hm hne.1 hne.2 (v := v)]
      intro i hi j hj
      have li := inv.mem_lt hi
      have lj := inv.mem_lt hj
      refine hv i j li lj ?_
      rw [ihC] at hi hj
      have h1 := hp.1
      rcases hmem a i hi with h2 | h2 <;> rcases hmem b j hj with h3 | h3 <;> omega
    have hbest : IsBest n m (runS n m d q).sz (runS n m d q).bt 0 (q + 1) := by
      refine ⟨hp0, fun p r hp => ?_, fun p r hp hB => ?_⟩
      · rw [hdist p r hp, hdist 0 (q + 1) hp0]
        unfold lessB
        rw [decide_eq_false_iff_not]
        generalize (if m = 3 then ((CL (clS n m d q) p).length : Int) * ((CL (clS n m d q) r).length : Int) else 1) = x
        generalize (if m = 3 then ((CL (clS n m d q) 0).length : Int) * ((CL (clS n m d q) (q + 1)).length : Int) else 1) = y
        have : v * x * y = v * y * x := Int.mul_right_comm _ _ _
        show ¬ v * x * y < v * y * x
        omega
      · exfalso
        have h1 := hp.1
        have h2 := (inv.ne_of_PL hp).2
        rw [ihC] at h2
        unfold Bef at hB
        have h3 : r ≤ q := by omega
        apply h2
        unfold evC
        rw [if_neg (by omega), if_pos h3]
    have hs := inv.best_of hd hqn hbest
    have hpos := inv.pos hd 0 (q + 1) hp0
    have hd0 := hdist 0 (q + 1) hp0
    have hsz0 : (runS n m d q).sz.getD 0 0 = ((q + 1 : Nat) : Int) := by rw [inv.szE, ihC, hC0]; simp
    have hsz1 : (runS n m d q).sz.getD (q + 1) 0 = 1 := by rw [inv.szE, ihC, hC1]; rfl
    refine ⟨fun i => ?_, ?_⟩
    · simp only [clS, hs, bsOf, Int.toNat_natCast]
      rw [CL_clU (by rw [inv.len]; omega) (by rw [inv.len]; omega) (by omega)]
      rw [ihC, ihC, ihC, hC0, hC1]
      unfold evC
      by_cases e1 : i = q + 1
      · rw [if_pos e1, if_neg (by omega), if_pos (by omega)]
      · rw [if_neg e1]
        by_cases e0 : i = 0
        · rw [if_pos e0, if_pos ⟨e0, by omega⟩, ← List.range_succ]
        · rw [if_neg e0]
          by_cases e2 : i ≤ q
          · rw [if_neg (show ¬ (i = 0 ∧ 0 < n) by omega), if_pos e2, if_neg (show ¬ (i = 0 ∧ 0 < n) by omega), if_pos (show i ≤ q + 1 by omega)]
          · rw [if_neg (show ¬ (i = 0 ∧ 0 < n) by omega), if_neg e2, if_neg (show ¬ (i = 0 ∧ 0 < n) by omega), if_neg (show ¬ i ≤ q + 1 by omega)]
    · have hms : (runS n m d (q + 1)).ms = (runS n m d q).ms ++ [mgOf (runS n m d q).sz (bestTo n m (runS n m d q).sz (runS n m d q).bt n)] := rfl
      rw [hms, hs, ihM, List.range_succ, List.map_append]
      congr 1
      simp only [List.map_cons, List.map_nil, List.cons.injEq, and_true]
      unfold mgOf bsOf evM
      simp only [Int.toNat_natCast]
      rw [hsz0, hsz1]
      rw [hd0] at hpos ⊢
      have hl := low_mul hv0 hpos
      simp only at hl ⊢
      rw [hl.1, hl.2]
      congr 1

theorem even_run {n : Nat} {m v : Int} {d : List Int} (hd : DOk n d) (hm : m = 1 ∨ m = 2 ∨ m = 3) (hv0 : 0 ≤ v) (hv : ∀ i j, i < n → j < n → i ≠ j → at2 n d i j = v) : runL n m d = (List.range (n - 1)).map (evM v) :=
  (even_rounds hd hm hv0 hv (n - 1) (by omega)).2

/-- The points of one number. -/
theorem ptRow_at {n : Nat} {v : Int} {z : List Int} (hz : ∀ k, pv z k = v) {d : List Int} {i k : Nat} (hd : PtOk n d) (hi : i < n) : ∀ j, j ≤ n → ∀ p q, p < n → q < n →
    at2 n (ptRow n z d i k j).1 p q = if (p = i ∧ i < q ∧ q < j) ∨ (q = i ∧ i < p ∧ p < j) then v else at2 n d p q
  | 0, _, p, q, hp, hq => by rw [if_neg (by omega)]; rfl
  | j + 1, hj, p, q, hp, hq => by
    have ih := ptRow_at hz hd hi j (by omega) p q hp hq (k := k)
    rw [ptRow]
    split
    · rename_i hij
      show at2 n (put2 n (ptRow n z d i k j).1 i j (pv z (ptRow n z d i k j).2)) p q = _
      rw [at2_put2 (ptRow_ok hd hi j (by omega)).len hi (by omega) _ hp hq, hz, ih]
      by_cases h1 : (p = j ∧ q = i) ∨ (p = i ∧ q = j)
      · rw [if_pos h1, if_pos (by omega)]
      · rw [if_neg h1]
        by_cases h2 : (p = i ∧ i < q ∧ q < j) ∨ (q = i ∧ i < p ∧ p < j)
        · rw [if_pos h2, if_pos (by omega)]
        · rw [if_neg h2, if_neg (by omega)]
    · rename_i hij
      rw [ih]
      by_cases h2 : (p = i ∧ i < q ∧ q < j) ∨ (q = i ∧ i < p ∧ p < j)
      · rw [if_pos h2, if_pos (by omega)]
      · rw [if_neg h2, if_neg (by omega)]

theorem ptTo_at {n : Nat} {v : Int} {z : List Int} (hz : ∀ k, pv z k = v) : ∀ i, i ≤ n → ∀ p q, p < n → q < n → p ≠ q → (p < i ∨ q < i) → at2 n (ptTo n z i).1 p q = v
  | 0, _, p, q, _, _, _, h => by omega
  | i + 1, hi, p, q, hp, hq, hpq, h => by
    show at2 n (ptRow n z (ptTo n z i).1 i (ptTo n z i).2 n).1 p q = v
    rw [ptRow_at hz (ptTo_ok n z i (by omega)) (by omega) n (Nat.le_refl _) p q hp hq]
    split
    · rfl
    · exact ptTo_at hz i (by omega) p q hp hq hpq (by omega)

theorem pts_const {n : Nat} {v : Int} {z : List Int} (hz : ∀ k, pv z k = v) (i j : Nat) (hi : i < n) (hj : j < n) (hij : i ≠ j) : at2 n (ptsL n z) i j = v :=
  ptTo_at hz n (Nat.le_refl _) i j hi hj hij (.inl hi)

theorem pv_one (x : Int) (k : Nat) : pv [x] k = x % 1099511627777 := by
  unfold pv
  rw [if_neg (by simp)]
  simp [Nat.mod_one]

end Go.Proofs.YthhddjknjnjbhaaDoor
