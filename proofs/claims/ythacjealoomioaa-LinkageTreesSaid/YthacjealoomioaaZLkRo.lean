/- linkage: the rounds of the run, one by one. No program in sight. -/
import Derived.Test.YthacjealoomioaaZLkBs
import Derived.Test.YthacjealoomioaaZMgT
namespace Go.Proofs.Ythacjealoomioaa.Lk
set_option linter.unusedVariables false
set_option linter.unusedSimpArgs false

def den (m : Int) (A B : List Nat) : Int := if m = 3 then (A.length : Int) * (B.length : Int) else 1

/-- The distance of two clusters, not in lowest terms. -/
def fr (n : Nat) (m : Int) (d : List Int) (A B : List Nat) : Int × Int := (gap m n d A B, den m A B)

/-- The i-th round unites a and b. -/
structure Rd (n : Nat) (m : Int) (d : List Int) (i a b : Nat) : Prop where
  lt : a < b
  hb : b < n
  na : CL (clS n m d i) a ≠ []
  nb : CL (clS n m d i) b ≠ []
  low : ∀ p q, p < q → CL (clS n m d i) p ≠ [] → CL (clS n m d i) q ≠ [] → lessB (fr n m d (CL (clS n m d i) p) (CL (clS n m d i) q)) (fr n m d (CL (clS n m d i) a) (CL (clS n m d i) b)) = false
  fst : ∀ p q, p < q → CL (clS n m d i) p ≠ [] → CL (clS n m d i) q ≠ [] → Bef p q a b → lessB (fr n m d (CL (clS n m d i) a) (CL (clS n m d i) b)) (fr n m d (CL (clS n m d i) p) (CL (clS n m d i) q)) = true
  mg : (runL n m d).getD i mg0 = ⟨a, b, lowN (gap m n d (CL (clS n m d i) a) (CL (clS n m d i) b)) (den m (CL (clS n m d i) a) (CL (clS n m d i) b)), lowD (gap m n d (CL (clS n m d i) a) (CL (clS n m d i) b)) (den m (CL (clS n m d i) a) (CL (clS n m d i) b)), ((CL (clS n m d i) a).length : Int) + ((CL (clS n m d i) b).length : Int)⟩
  next : clS n m d (i + 1) = clU (clS n m d i) a b

theorem runS_ms_at (n : Nat) (m : Int) (d : List Int) (i : Nat) : ∀ k, i < k → (runS n m d k).ms.getD i mg0 = mgOf (runS n m d i).sz (bestTo n m (runS n m d i).sz (runS n m d i).bt n)
  | 0, h => by omega
  | k + 1, h => by
    have e : (runS n m d (k + 1)).ms = (runS n m d k).ms ++ [mgOf (runS n m d k).sz (bestTo n m (runS n m d k).sz (runS n m d k).bt n)] := rfl
    have hl := runS_ms_length n m d k
    rw [e, List.getD_eq_getElem?_getD]
    by_cases hi : i < k
    · rw [List.getElem?_append_left (by omega), ← List.getD_eq_getElem?_getD]
      exact runS_ms_at n m d i k hi
    · obtain rfl : i = k := by omega
      rw [List.getElem?_append_right (by omega), hl, Nat.sub_self]
      rfl

theorem rd_of {n : Nat} {m : Int} {d : List Int} (hd : DOk n d) (hm : m = 1 ∨ m = 2 ∨ m = 3) {i : Nat} (hi : i + 1 < n) : ∃ a b, Rd n m d i a b := by
  have inv := runS_inv hd hm i (by omega)
  obtain ⟨a, b, hbest, hs⟩ := inv.bestIs hd hi
  have hne := inv.ne_of_PL hbest.pl
  have hdist : ∀ p q, PL n (runS n m d i).sz p q → distL n m (runS n m d i).sz (runS n m d i).bt p q = fr n m d (CL (clS n m d i) p) (CL (clS n m d i) q) := fun p q hp => inv.dist hp
  refine ⟨a, b, hbest.pl.1, hbest.pl.2.1, hne.1, hne.2, fun p q h1 h2 h3 => ?_, fun p q h1 h2 h3 hB => ?_, ?_, ?_⟩
  · have hp := inv.PL_iff.2 ⟨h1, h2, h3⟩
    rw [← hdist p q hp, ← hdist a b hbest.pl]
    exact hbest.low p q hp
  · have hp := inv.PL_iff.2 ⟨h1, h2, h3⟩
    rw [← hdist p q hp, ← hdist a b hbest.pl]
    exact hbest.fst p q hp hB
  · unfold runL
    rw [runS_ms_at n m d i (n - 1) (by omega), hs]
    unfold mgOf bsOf
    simp only [Int.toNat_natCast]
    rw [hdist a b hbest.pl, inv.szE, inv.szE]
    rfl
  · simp only [clS, hs, bsOf, Int.toNat_natCast]

theorem Rd.same {n : Nat} {m : Int} {d d' : List Int} {i a b a' b' : Nat} (h : Rd n m d i a b) (k : Rd n m d' i a' b') (hc : clS n m d' i = clS n m d i)
    (hless : ∀ A B C D : List Nat, A ≠ [] → B ≠ [] → C ≠ [] → D ≠ [] → lessB (fr n m d' A B) (fr n m d' C D) = lessB (fr n m d A B) (fr n m d C D)) : a' = a ∧ b' = b := by
  have kl := k.low
  have kf := k.fst
  have ka := k.na
  have kb := k.nb
  rw [hc] at kl kf ka kb
  have h1 : ¬ Bef a' b' a b := fun hB => by
    have e := h.fst a' b' k.lt ka kb hB
    rw [← hless _ _ _ _ h.na h.nb ka kb, kl a b h.lt h.na h.nb] at e
    cases e
  have h2 : ¬ Bef a b a' b' := fun hB => by
    have e := kf a b h.lt h.na h.nb hB
    rw [hless _ _ _ _ ka kb h.na h.nb, h.low a' b' k.lt ka kb] at e
    cases e
  unfold Bef at h1 h2
  omega

theorem alike_runs {n : Nat} {m : Int} {d d' : List Int} (hd : DOk n d) (hd' : DOk n d') (hm : m = 1 ∨ m = 2 ∨ m = 3)
    (hless : ∀ A B C D : List Nat, A ≠ [] → B ≠ [] → C ≠ [] → D ≠ [] → lessB (fr n m d' A B) (fr n m d' C D) = lessB (fr n m d A B) (fr n m d C D)) : ∀ q, q + 1 ≤ n ∨ q = 0 → clS n m d' q = clS n m d q
  | 0, _ => rfl
  | q + 1, hq => by
    have ih := alike_runs hd hd' hm hless q (by omega)
    obtain ⟨a, b, h⟩ := rd_of hd hm (i := q) (by omega)
    obtain ⟨a', b', k⟩ := rd_of hd' hm (i := q) (by omega)
    obtain ⟨rfl, rfl⟩ := h.same k ih hless
    rw [h.next, k.next, ih]

/-- Two runs whose distances stand in the same order: the i-th merges. -/
theorem alike_at {n : Nat} {m : Int} {d d' : List Int} (hd : DOk n d) (hd' : DOk n d') (hm : m = 1 ∨ m = 2 ∨ m = 3)
    (hless : ∀ A B C D : List Nat, A ≠ [] → B ≠ [] → C ≠ [] → D ≠ [] → lessB (fr n m d' A B) (fr n m d' C D) = lessB (fr n m d A B) (fr n m d C D)) {i : Nat} (hi : i + 1 < n) :
    ∃ (a b : Nat) (A B : List Nat), A ≠ [] ∧ B ≠ [] ∧ A.length + B.length ≤ n ∧ (runL n m d).getD i mg0 = ⟨a, b, lowN (gap m n d A B) (den m A B), lowD (gap m n d A B) (den m A B), (A.length : Int) + B.length⟩ ∧
      (runL n m d').getD i mg0 = ⟨a, b, lowN (gap m n d' A B) (den m A B), lowD (gap m n d' A B) (den m A B), (A.length : Int) + B.length⟩ := by
  have hc := alike_runs hd hd' hm hless i (by omega)
  obtain ⟨a, b, h⟩ := rd_of hd hm hi
  obtain ⟨a', b', k⟩ := rd_of hd' hm hi
  obtain ⟨rfl, rfl⟩ := h.same k hc hless
  have hmg := k.mg
  rw [hc] at hmg
  exact ⟨a', b', _, _, h.na, h.nb, (runS_inv hd hm i (by omega)).lens h.lt, h.mg, hmg⟩

theorem at2_map {n : Nat} {d : List Int} {f : Int → Int} (h0 : f 0 = 0) (i j : Nat) : at2 n (d.map f) i j = f (at2 n d i j) := by
  unfold at2
  rw [List.getD_eq_getElem?_getD, List.getD_eq_getElem?_getD, List.getElem?_map]
  cases d[i * n + j]? with
  | none => exact h0.symm
  | some x => rfl

theorem cross_map {n : Nat} {d : List Int} {f : Int → Int} (h0 : f 0 = 0) (A B : List Nat) : cross n (d.map f) A B = (cross n d A B).map f := by
  unfold cross
  rw [List.map_flatMap]
  congr 1
  funext i
  rw [List.map_map]
  congr 1
  funext j
  exact at2_map h0 i j

theorem agg_map {m : Int} {f : Int → Int} (hf : ∀ x y, mixE m (f x) (f y) = f (mixE m x y)) : ∀ l : List Int, l ≠ [] → agg m (l.map f) = f (agg m l)
  | [], h => absurd rfl h
  | [x], _ => by simp [agg]
  | x :: y :: l, _ => by
    rw [List.map_cons, agg_cons (by simp), agg_cons (by simp), agg_map hf (y :: l) (by simp), hf]

theorem gap_map {m : Int} {n : Nat} {d : List Int} {f : Int → Int} (h0 : f 0 = 0) (hf : ∀ x y, mixE m (f x) (f y) = f (mixE m x y)) {A B : List Nat} (hA : A ≠ []) (hB : B ≠ []) : gap m n (d.map f) A B = f (gap m n d A B) := by
  unfold gap
  rw [cross_map h0, agg_map hf _ (cross_ne hA hB)]

theorem mixE_scale {m c : Int} (hc : 0 ≤ c) (x y : Int) : mixE m (x * c) (y * c) = mixE m x y * c := by
  unfold mixE
  split
  · rcases Int.le_total x y with h | h
    · rw [Int.min_eq_left h, Int.min_eq_left (Int.mul_le_mul_of_nonneg_right h hc)]
    · rw [Int.min_eq_right h, Int.min_eq_right (Int.mul_le_mul_of_nonneg_right h hc)]
  · split
    · rcases Int.le_total x y with h | h
      · rw [Int.max_eq_right h, Int.max_eq_right (Int.mul_le_mul_of_nonneg_right h hc)]
      · rw [Int.max_eq_left h, Int.max_eq_left (Int.mul_le_mul_of_nonneg_right h hc)]
    · rw [Int.add_mul]

theorem den_pos {m : Int} {A B : List Nat} (hA : A ≠ []) (hB : B ≠ []) : 0 < den m A B := by
  unfold den
  have a := List.length_pos_iff.2 hA
  have b := List.length_pos_iff.2 hB
  split
  · exact Int.mul_pos (by omega) (by omega)
  · omega

theorem den_le {m : Int} {A B : List Nat} {n : Nat} (h : A.length + B.length ≤ n) : den m A B ≤ ((n * n : Nat) : Int) ∨ den m A B = 1 := by
  unfold den
  split
  · left
    have : A.length * B.length ≤ n * n := Nat.mul_le_mul (by omega) (by omega)
    have e : ((A.length * B.length : Nat) : Int) = (A.length : Int) * (B.length : Int) := Int.natCast_mul _ _
    omega
  · right; rfl

/-- In lowest terms: the same fraction. -/
theorem low_same {g e : Int} (hg : 0 ≤ g) (he : 0 < e) : lowN g e * e = g * lowD g e ∧ 0 ≤ lowN g e ∧ 0 < lowD g e ∧ lowD g e ≤ e ∧ lowN g e ≤ g ∧ Nat.gcd (lowN g e).toNat (lowD g e).toNat = 1 := by
  obtain ⟨a, rfl⟩ := Int.eq_ofNat_of_zero_le hg
  obtain ⟨b, rfl⟩ := Int.eq_ofNat_of_zero_le (Int.le_of_lt he)
  have hb : 0 < b := by omega
  unfold lowN lowD
  rw [Int.toNat_natCast, Int.toNat_natCast, ← Int.natCast_ediv, ← Int.natCast_ediv]
  have hp : 0 < Nat.gcd a b := Nat.gcd_pos_of_pos_right _ hb
  obtain ⟨x, hx⟩ := Nat.gcd_dvd_left a b
  obtain ⟨y, hy⟩ := Nat.gcd_dvd_right a b
  have ex : a / Nat.gcd a b = x := Nat.div_eq_of_eq_mul_right hp hx
  have ey : b / Nat.gcd a b = y := Nat.div_eq_of_eq_mul_right hp hy
  rw [Int.toNat_natCast, Int.toNat_natCast]
  have hc : Nat.gcd (a / Nat.gcd a b) (b / Nat.gcd a b) = 1 := by
    rw [Nat.gcd_div (Nat.gcd_dvd_left a b) (Nat.gcd_dvd_right a b), Nat.div_self hp]
  refine ⟨?_, by omega, ?_, ?_, ?_, hc⟩
  · rw [ex, ey, ← Int.natCast_mul, ← Int.natCast_mul]
    congr 1
    have h1 : x * b = x * (Nat.gcd a b * y) := by rw [← hy]
    have h2 : a * y = Nat.gcd a b * x * y := by rw [← hx]
    rw [h1, h2, Nat.mul_comm (Nat.gcd a b) x, Nat.mul_assoc]
  · have : 0 < b / Nat.gcd a b := Nat.div_pos (Nat.le_of_dvd hb (Nat.gcd_dvd_right a b)) hp
    omega
  · have := Nat.div_le_self b (Nat.gcd a b); omega
  · have := Nat.div_le_self a (Nat.gcd a b); omega

theorem lessB_scale {c : Int} (hc : 0 < c) (x y : Int × Int) : lessB (x.1 * c, x.2) (y.1 * c, y.2) = lessB x y := by
  unfold lessB
  have e1 : x.1 * c * y.2 = x.1 * y.2 * c := Int.mul_right_comm _ _ _
  have e2 : y.1 * c * x.2 = y.1 * x.2 * c := Int.mul_right_comm _ _ _
  simp only [e1, e2]
  by_cases h : x.1 * y.2 < y.1 * x.2
  · rw [decide_eq_true h, decide_eq_true (Int.mul_lt_mul_of_pos_right h hc)]
  · rw [decide_eq_false h, decide_eq_false]
    intro hh
    exact h (Int.lt_of_mul_lt_mul_right hh (Int.le_of_lt hc))

/-- All distances multiplied. -/
theorem scale_at {n : Nat} {m c : Int} {d : List Int} (hc : 0 < c) (hd : DOk n d) (hd' : DOk n (d.map fun x => x * c)) (hm : m = 1 ∨ m = 2 ∨ m = 3) {i : Nat} (hi : i + 1 < n) :
    ∃ (a b N D N' D' s : Int), (runL n m d).getD i mg0 = ⟨a, b, N, D, s⟩ ∧ (runL n m (d.map fun x => x * c)).getD i mg0 = ⟨a, b, N', D', s⟩ ∧ N * c * D' = N' * D ∧
      (0 ≤ N ∧ 0 ≤ N' ∧ 0 < D ∧ 0 < D' ∧ D ≤ n * n ∧ D' ≤ n * n) ∧ ∃ A B, A ≠ [] ∧ B ≠ [] ∧ A.length + B.length ≤ n ∧ N ≤ gap m n d A B ∧ N' ≤ gap m n (d.map fun x => x * c) A B := by
  have hg : ∀ A B : List Nat, A ≠ [] → B ≠ [] → gap m n (d.map fun x => x * c) A B = gap m n d A B * c := fun A B hA hB =>
    gap_map (f := fun x => x * c) (Int.zero_mul c) (mixE_scale (Int.le_of_lt hc)) hA hB
  have hless : ∀ A B C D : List Nat, A ≠ [] → B ≠ [] → C ≠ [] → D ≠ [] → lessB (fr n m (d.map fun x => x * c) A B) (fr n m (d.map fun x => x * c) C D) = lessB (fr n m d A B) (fr n m d C D) := by
    intro A B C D hA hB hC hD
    unfold fr
    rw [hg A B hA hB, hg C D hC hD]
    exact lessB_scale hc (gap m n d A B, den m A B) (gap m n d C D, den m C D)
  obtain ⟨a, b, A, B, hA, hB, hl, e1, e2⟩ := alike_at hd hd' hm hless hi
  have he := den_pos (m := m) hA hB
  have hb := hd.hn
  have g0 := (gap_lim (m := m) hd (l1 := A) (l2 := B) (by omega) (by omega)).1
  have g0' := (gap_lim (m := m) hd' (l1 := A) (l2 := B) (by omega) (by omega)).1
  have l1 := low_same g0 he
  have l2 := low_same g0' he
  have hden : den m A B ≤ (n : Int) * n := by
    rcases den_le (m := m) hl with h | h
    · rw [Int.natCast_mul] at h; exact h
    · rw [h]
      have : 1 * 1 ≤ n * n := Nat.mul_le_mul (by omega) (by omega)
      have e : ((n * n : Nat) : Int) = (n : Int) * n := Int.natCast_mul _ _
      omega
  refine ⟨a, b, _, _, _, _, _, e1, e2, ?_, ⟨l1.2.1, l2.2.1, l1.2.2.1, l2.2.2.1, Int.le_trans l1.2.2.2.1 hden, Int.le_trans l2.2.2.2.1 hden⟩, A, B, hA, hB, hl, l1.2.2.2.2.1, l2.2.2.2.2.1⟩
  have k1 := l1.1
  have k2 := l2.1
  rw [hg A B hA hB] at k2 ⊢
  rw [hg A B hA hB] at l2
  generalize lowN (gap m n d A B) (den m A B) = N at *
  generalize lowD (gap m n d A B) (den m A B) = D at *
  generalize lowN (gap m n d A B * c) (den m A B) = N' at *
  generalize lowD (gap m n d A B * c) (den m A B) = D' at *
  generalize gap m n d A B = g at *
  generalize den m A B = e at *
  have : N * c * D' * e = N' * D * e := by
    have s1 : N * c * D' * e = (N * e) * (c * D') := by
      rw [Int.mul_right_comm (N * c) D' e, Int.mul_right_comm N c e, Int.mul_assoc]
    have s2 : N' * D * e = (N' * e) * D := Int.mul_right_comm _ _ _
    rw [s1, s2, k1, k2, Int.mul_assoc g D (c * D'), Int.mul_comm D (c * D'), ← Int.mul_assoc, ← Int.mul_assoc]
  exact Int.eq_of_mul_eq_mul_right (by omega) this

end Go.Proofs.Ythacjealoomioaa.Lk
