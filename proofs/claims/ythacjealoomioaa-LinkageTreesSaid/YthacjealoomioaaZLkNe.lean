/- linkage: the labels of a run, and its nearest pairs. No program in sight. -/
import Derived.Test.YthacjealoomioaaZLkPaP
import Derived.Test.YthacjealoomioaaZMgT
namespace Go.Proofs.Ythacjealoomioaa.Lk
set_option linter.unusedVariables false
set_option linter.unusedSimpArgs false

theorem CL_unique {cl : List (List Nat)} (hn : cl.flatten.Nodup) {x i j : Nat} (hi : x ∈ CL cl i) (hj : x ∈ CL cl j) : i = j := by
  have li : i < cl.length := CL_lt (fun e => by rw [e] at hi; simp at hi)
  have lj : j < cl.length := CL_lt (fun e => by rw [e] at hj; simp at hj)
  have ei : CL cl i = cl[i] := by unfold CL; rw [List.getD_eq_getElem?_getD, List.getElem?_eq_getElem li]; rfl
  have ej : CL cl j = cl[j] := by unfold CL; rw [List.getD_eq_getElem?_getD, List.getElem?_eq_getElem lj]; rfl
  rw [ei] at hi
  rw [ej] at hj
  rw [List.nodup_iff_pairwise_ne, List.pairwise_flatten] at hn
  have h2 := List.pairwise_iff_getElem.1 hn.2
  apply Classical.byContradiction
  intro hne
  rcases Nat.lt_or_gt_of_ne hne with h | h
  · exact h2 i j li lj h x hi x hj rfl
  · exact h2 j i lj li h x hj x hi rfl

/-- Each point's label is the cluster that holds it. -/
structure LabOf (n : Nat) (cl : List (List Nat)) (now : List Int) : Prop where
  len : now.length = n
  lab : ∀ x, x < n → ∃ j : Nat, now.getD x 0 = (j : Int) ∧ x ∈ CL cl j

/-- The points before t with the label x. -/
def setN (now : List Int) (x : Nat) (t : Nat) : List Nat := (List.range t).filter fun y => decide (now.getD y 0 = (x : Int))

theorem setN_succ (now : List Int) (x t : Nat) : setN now x (t + 1) = if now.getD t 0 = (x : Int) then setN now x t ++ [t] else setN now x t := by
  unfold setN
  rw [List.range_succ, List.filter_append]
  by_cases h : now.getD t 0 = (x : Int)
  · rw [if_pos h, List.filter_cons, if_pos (by simp only [h, decide_true])]; rfl
  · rw [if_neg h, List.filter_cons, if_neg (by simp only [h, decide_false]; exact Bool.false_ne_true)]; simp

theorem setN_mem {now : List Int} {x t y : Nat} : y ∈ setN now x t ↔ y < t ∧ now.getD y 0 = (x : Int) := by
  unfold setN
  rw [List.mem_filter, List.mem_range, decide_eq_true_eq]

theorem setN_nodup (now : List Int) (x t : Nat) : (setN now x t).Nodup := List.nodup_range.filter _

theorem setN_len (now : List Int) (x t : Nat) : (setN now x t).length ≤ t := by
  have := List.length_filter_le (fun y => decide (now.getD y 0 = (x : Int))) (List.range t)
  rw [List.length_range] at this
  exact this

theorem LabOf.mem {n : Nat} {cl : List (List Nat)} {now : List Int} (h : LabOf n cl now) (hp : cl.flatten.Perm (List.range n)) {x j : Nat} : x ∈ CL cl j ↔ x < n ∧ now.getD x 0 = (j : Int) := by
  have hn : cl.flatten.Nodup := hp.nodup_iff.2 List.nodup_range
  constructor
  · intro hx
    have hlt : x < n := by
      have lj : j < cl.length := CL_lt (fun e => by rw [e] at hx; simp at hx)
      have : x ∈ cl.flatten := List.mem_flatten.2 ⟨CL cl j, by
        unfold CL
        rw [List.getD_eq_getElem?_getD, List.getElem?_eq_getElem lj]
        exact List.getElem_mem lj, hx⟩
      exact List.mem_range.1 (hp.mem_iff.1 this)
    obtain ⟨i, h1, h2⟩ := h.lab x hlt
    rw [CL_unique hn h2 hx] at h1
    exact ⟨hlt, h1⟩
  · rintro ⟨hlt, hx⟩
    obtain ⟨i, h1, h2⟩ := h.lab x hlt
    obtain rfl : i = j := by omega
    exact h2

theorem flatten_CL_nodup {cl : List (List Nat)} (hn : cl.flatten.Nodup) (j : Nat) : (CL cl j).Nodup := by
  by_cases lj : j < cl.length
  · rw [List.nodup_iff_pairwise_ne, List.pairwise_flatten] at hn
    have ej : CL cl j = cl[j] := by unfold CL; rw [List.getD_eq_getElem?_getD, List.getElem?_eq_getElem lj]; rfl
    rw [ej, List.nodup_iff_pairwise_ne]
    exact hn.1 _ (List.getElem_mem lj)
  · have ej : CL cl j = [] := by unfold CL; rw [List.getD_eq_getElem?_getD, List.getElem?_eq_none (by omega)]; rfl
    rw [ej]; simp

theorem LabOf.perm {n : Nat} {cl : List (List Nat)} {now : List Int} (h : LabOf n cl now) (hp : cl.flatten.Perm (List.range n)) (j : Nat) : (setN now j n).Perm (CL cl j) :=
  (List.perm_ext_iff_of_nodup (setN_nodup now j n) (flatten_CL_nodup (hp.nodup_iff.2 List.nodup_range) j)).2 fun x => by rw [setN_mem, h.mem hp]

theorem count_setN (now : List Int) (j : Nat) : now.count (j : Int) = (setN now j now.length).length := by
  have e : now = (List.range now.length).map fun y => now.getD y 0 := by
    apply List.ext_getElem?
    intro i
    rw [List.getElem?_map]
    by_cases hi : i < now.length
    · rw [List.getElem?_range hi, List.getElem?_eq_getElem hi, Option.map_some, List.getD_eq_getElem?_getD, List.getElem?_eq_getElem hi]; rfl
    · rw [List.getElem?_eq_none (by omega), List.getElem?_eq_none (by simp; omega)]; rfl
  unfold setN
  have e2 : now.count (j : Int) = ((List.range now.length).map fun y => now.getD y 0).count (j : Int) := congrArg _ e
  rw [e2, List.count_eq_countP, List.countP_map, List.countP_eq_length_filter]
  congr 1

theorem LabOf.count {n : Nat} {cl : List (List Nat)} {now : List Int} (h : LabOf n cl now) (hp : cl.flatten.Perm (List.range n)) (j : Nat) : now.count (j : Int) = (CL cl j).length := by
  rw [count_setN, h.len, (h.perm hp j).length_eq]

theorem getD_relab (A B : Int) (now : List Int) {x : Nat} (hx : x < now.length) : (relab A B now).getD x 0 = if now.getD x 0 = B then A else now.getD x 0 := by
  unfold relab
  rw [List.getD_eq_getElem?_getD, List.getElem?_map, List.getD_eq_getElem?_getD, List.getElem?_eq_getElem hx]
  rfl

theorem mrun_ok {n : Nat} {m : Int} {d : List Int} (hd : DOk n d) (hm : m = 1 ∨ m = 2 ∨ m = 3) : ∀ i, i + 1 ≤ n ∨ i = 0 → ∃ now, mrunTo n (runL n m d) i = some now ∧ LabOf n (clS n m d i) now
  | 0, _ => by
    refine ⟨ident n, rfl, by simp [ident], fun x hx => ⟨x, ?_, ?_⟩⟩
    · unfold ident
      rw [List.getD_eq_getElem?_getD, List.getElem?_map, List.getElem?_range hx]; rfl
    · show x ∈ CL ((List.range n).map fun i => [i]) x
      unfold CL
      rw [List.getD_eq_getElem?_getD, List.getElem?_map, List.getElem?_range hx]
      simp
  | i + 1, hi => by
    obtain ⟨now, h1, h2⟩ := mrun_ok hd hm i (by omega)
    obtain ⟨a, b, h⟩ := rd_of hd hm (i := i) (by omega)
    have inv := runS_inv hd hm i (by omega)
    have ca := h2.count inv.perm a
    have cb := h2.count inv.perm b
    have la := List.length_pos_iff.2 h.na
    have lb := List.length_pos_iff.2 h.nb
    have hab := h.lt
    have hbn := h.hb
    have hC : ∀ x, CL (clS n m d (i + 1)) x = if x = b then [] else if x = a then CL (clS n m d i) a ++ CL (clS n m d i) b else CL (clS n m d i) x := by
      intro x
      rw [h.next]
      exact CL_clU (by rw [inv.len]; omega) (by rw [inv.len]; omega) (by omega)
    refine ⟨relab a b now, ?_, by rw [relab_length]; exact h2.len, fun x hx => ?_⟩
    · rw [mrunTo, h1]
      show mstep n now _ = _
      rw [h.mg]
      unfold mstep
      rw [if_neg]
      unfold mbad
      simp only [ca, cb]
      omega
    · obtain ⟨j, e1, e2⟩ := h2.lab x hx
      rw [getD_relab _ _ _ (by rw [h2.len]; exact hx), e1]
      by_cases ejb : j = b
      · subst ejb
        rw [if_pos rfl]
        refine ⟨a, rfl, ?_⟩
        rw [hC, if_neg (by omega), if_pos rfl]
        exact List.mem_append_right _ e2
      · rw [if_neg (by omega)]
        refine ⟨j, rfl, ?_⟩
        rw [hC, if_neg ejb]
        by_cases eja : j = a
        · subst eja; rw [if_pos rfl]; exact List.mem_append_left _ e2
        · rw [if_neg eja]; exact e2

theorem cross_perm {n : Nat} {d : List Int} {l1 l1' l2 l2' : List Nat} (h1 : l1.Perm l1') (h2 : l2.Perm l2') : (cross n d l1 l2).Perm (cross n d l1' l2') := by
  unfold cross
  refine (h1.flatMap_right _).trans ?_
  induction l1' generalizing l1 with
  | nil => exact List.Perm.refl _
  | cons x l ih =>
    rw [List.flatMap_cons, List.flatMap_cons]
    exact (h2.map _).append (ih (List.Perm.refl _))

theorem gap_perm {n : Nat} {m : Int} {d : List Int} {l1 l1' l2 l2' : List Nat} (h1 : l1.Perm l1') (h2 : l2.Perm l2') : gap m n d l1 l2 = gap m n d l1' l2' := agg_perm (cross_perm h1 h2)

theorem den_perm {m : Int} {l1 l1' l2 l2' : List Nat} (h1 : l1.Perm l1') (h2 : l2.Perm l2') : den m l1 l2 = den m l1' l2' := by
  unfold den
  rw [h1.length_eq, h2.length_eq]

/-- What a distance between two clusters is. -/
structure Hgt (N D : Int) : Prop where
  h1 : 1 ≤ D
  h2 : D ≤ 4096
  h3 : 0 ≤ N
  h4 : N ≤ 1099511627776 * D
  h5 : Nat.gcd N.toNat D.toNat = 1
  h6 : N ≤ 9007199254740992

theorem Hgt.of {n : Nat} {m : Int} {d : List Int} (hn : n ≤ 64) (hm : m = 1 ∨ m = 2 ∨ m = 3) (hd : DOk n d) {A B : List Nat} (hA : A ≠ []) (hB : B ≠ []) (hl : A.length + B.length ≤ n) : Hgt (lowN (gap m n d A B) (den m A B)) (lowD (gap m n d A B) (den m A B)) := by
  have hg := gap_le_den hm hd hA hB
  have he := den_pos (m := m) hA hB
  obtain ⟨k1, k2, k3, k4, k5, k6⟩ := low_same hg.1 he
  have b2 : lowD (gap m n d A B) (den m A B) ≤ 4096 := by
    rcases den_le (m := m) hl with h | h
    · have : n * n ≤ 64 * 64 := Nat.mul_le_mul hn hn
      omega
    · omega
  have b4 : lowN (gap m n d A B) (den m A B) ≤ 1099511627776 * lowD (gap m n d A B) (den m A B) := by
    apply Int.le_of_mul_le_mul_right (a := den m A B) _ he
    rw [k1, Int.mul_right_comm]
    exact Int.mul_le_mul_of_nonneg_right hg.2 (by omega)
  exact ⟨by omega, b2, k2, b4, k6, by omega⟩

/-- A pair of clusters against the pair that the round unites. -/
structure NearAt (n : Nat) (m : Int) (d : List Int) (A B : List Nat) (p q a b : Nat) (hN hD N D : Int) : Prop where
  val : betL n d m (zI B) (zI A) = (N, D, 0)
  hgt : Hgt N D
  low : lessB (N, D) (hN, hD) = false
  eq : p = a → q = b → N = hN ∧ D = hD
  fst : Bef p q a b → ¬ (N = hN ∧ D = hD)

theorem near_at {n : Nat} {m : Int} {d : List Int} (hn : n ≤ 64) (hc : checkL n d = 0) (hm : m = 1 ∨ m = 2 ∨ m = 3) {i a b : Nat} (hi : i + 1 < n) (h : Rd n m d i a b) {now : List Int} (hl : LabOf n (clS n m d i) now)
    {p q : Nat} (hpq : p < q) (hA : setN now p n ≠ []) (hB : setN now q n ≠ []) :
    ∃ N D, NearAt n m d (setN now p n) (setN now q n) p q a b (lowN (gap m n d (CL (clS n m d i) a) (CL (clS n m d i) b)) (den m (CL (clS n m d i) a) (CL (clS n m d i) b))) (lowD (gap m n d (CL (clS n m d i) a) (CL (clS n m d i) b)) (den m (CL (clS n m d i) a) (CL (clS n m d i) b))) N D := by
  have hd := DOk.of_check hc
  have inv := runS_inv hd hm i (by omega)
  have pA := hl.perm inv.perm p
  have pB := hl.perm inv.perm q
  have cA : CL (clS n m d i) p ≠ [] := fun e => hA (by rw [e] at pA; exact List.perm_nil.1 pA)
  have cB : CL (clS n m d i) q ≠ [] := fun e => hB (by rw [e] at pB; exact List.perm_nil.1 pB)
  have iA : ∀ x ∈ setN now p n, x < n := fun x hx => (setN_mem.1 hx).1
  have iB : ∀ x ∈ setN now q n, x < n := fun x hx => (setN_mem.1 hx).1
  have hnd : (setN now q n ++ setN now p n).Nodup := by
    refine List.nodup_append.2 ⟨setN_nodup _ _ _, setN_nodup _ _ _, fun x hx y hy e => ?_⟩
    subst e
    have e1 := (setN_mem.1 hx).2
    have e2 := (setN_mem.1 hy).2
    omega
  have e1 : gap m n d (setN now q n) (setN now p n) = gap m n d (CL (clS n m d i) p) (CL (clS n m d i) q) := by
    rw [(fr_comm (m := m) hd iB iA).1]
    exact gap_perm pA pB
  have e2 : den m (setN now q n) (setN now p n) = den m (CL (clS n m d i) p) (CL (clS n m d i) q) := by
    rw [den_comm]
    exact den_perm pA pB
  have hlen := inv.lens hpq
  have lowE := lessB_low (gap_le_den hm hd cA cB).1 (den_pos (m := m) cA cB) (gap_le_den hm hd h.na h.nb).1 (den_pos (m := m) h.na h.nb)
  have lowE' := lessB_low (gap_le_den hm hd h.na h.nb).1 (den_pos (m := m) h.na h.nb) (gap_le_den hm hd cA cB).1 (den_pos (m := m) cA cB)
  refine ⟨_, _, ?_, Hgt.of hn hm hd cA cB hlen, ?_, ?_, ?_⟩
  · rw [bet_val hc hm iB iA hnd, if_neg (by rintro (e | e); exact hB e; exact hA e), e1, e2]
  · rw [lowE]
    exact h.low p q hpq cA cB
  · rintro rfl rfl
    exact ⟨rfl, rfl⟩
  · rintro hB ⟨u1, u2⟩
    have := h.fst p q hpq cA cB hB
    unfold fr at this
    rw [← lowE', ← u1, ← u2, lessB_irrefl] at this
    cases this

theorem lab_at {n : Nat} {m : Int} {d : List Int} (hn : n ≤ 128) (hd : DOk n d) (hm : m = 1 ∨ m = 2 ∨ m = 3) {i : Nat} (hi : i + 1 ≤ n) : ∃ now, labL n (runL n m d) i = (0, now) ∧ LabOf n (clS n m d i) now := by
  obtain ⟨now, h1, h2⟩ := mrun_ok hd hm i (by omega)
  obtain ⟨all, h3, h4⟩ := mrun_ok hd hm (n - 1) (by omega)
  have hl : (runL n m d).length = n - 1 := runS_ms_length n m d (n - 1)
  refine ⟨now, ?_, h2⟩
  unfold labL
  rw [if_neg (by omega), Int.toNat_natCast, hl, h3]
  show (if (i : Int) < 0 ∨ ((n - 1 : Nat) : Int) < i then _ else _) = _
  rw [if_neg (by omega), Int.toNat_natCast, h1]
  rfl

theorem run_i64 {n : Nat} {m : Int} {d : List Int} (hd : DOk n d) (hm : m = 1 ∨ m = 2 ∨ m = 3) : ∀ x ∈ runL n m d, I64 x.A ∧ I64 x.B ∧ I64 x.S := by
  intro x hx
  have hl : (runL n m d).length = n - 1 := runS_ms_length n m d (n - 1)
  obtain ⟨i, hi⟩ := List.getElem?_of_mem hx
  have hlt := (List.getElem?_eq_some_iff.1 hi).1
  obtain ⟨a, b, h⟩ := rd_of hd hm (i := i) (by omega)
  have e := h.mg
  rw [List.getD_eq_getElem?_getD, hi, Option.getD_some] at e
  have h1 := h.lt
  have h2 := h.hb
  have h3 := (runS_inv hd hm i (by omega)).lens h1
  have h4 := hd.hn
  rw [e]
  unfold I64
  simp only
  omega

end Go.Proofs.Ythacjealoomioaa.Lk
