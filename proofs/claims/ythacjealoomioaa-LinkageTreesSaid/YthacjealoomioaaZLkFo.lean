/- Single linkage and the minimum spanning forest: by thresholds. No program in sight. -/
import Derived.Test.YthacjealoomioaaZLkNe
import Derived.Test.YthacjealoomioaaZLkSt
import Derived.Test.YthacjealoomioaaZMgH
namespace Go.Proofs.Ythacjealoomioaa.Lk
set_option linter.unusedVariables false
set_option linter.unusedSimpArgs false

/-- Points that are near. -/
def RD (n : Nat) (d : List Int) (th : Int) (i j : Nat) : Prop := i < n ∧ j < n ∧ i ≠ j ∧ at2 n d i j ≤ th
abbrev CTh (l : List Ed) (th : Int) : Nat → Nat → Prop := EdR l fun e => wI l e ≤ th

theorem agg_min : ∀ (l : List Int) (x : Int), x ∈ l → agg 1 l ≤ x
  | [], x, h => by cases h
  | [y], x, h => by
    rw [List.mem_singleton] at h
    rw [h]; exact Int.le_refl _
  | y :: z :: l, x, h => by
    rw [agg_cons (by simp)]
    have e : mixE 1 y (agg 1 (z :: l)) = min y (agg 1 (z :: l)) := by unfold mixE; rw [if_pos rfl]
    rw [e]
    rcases List.mem_cons.1 h with rfl | h
    · omega
    · have := agg_min (z :: l) x h
      omega

theorem cross_in {n : Nat} {d : List Int} {l1 l2 : List Nat} {i j : Nat} (hi : i ∈ l1) (hj : j ∈ l2) : at2 n d i j ∈ cross n d l1 l2 := by
  unfold cross
  exact List.mem_flatMap.2 ⟨i, hi, List.mem_map.2 ⟨j, hj, rfl⟩⟩

theorem gap_le {n : Nat} {d : List Int} {l1 l2 : List Nat} {i j : Nat} (hi : i ∈ l1) (hj : j ∈ l2) : gap 1 n d l1 l2 ≤ at2 n d i j := agg_min _ _ (cross_in hi hj)
theorem gap_is {n : Nat} {d : List Int} {l1 l2 : List Nat} (h1 : l1 ≠ []) (h2 : l2 ≠ []) : ∃ i ∈ l1, ∃ j ∈ l2, gap 1 n d l1 l2 = at2 n d i j := by
  obtain ⟨i, hi, j, hj, e⟩ := cross_mem' (agg_mem (m := 1) (.inl rfl) _ (cross_ne (n := n) (d := d) h1 h2))
  exact ⟨i, hi, j, hj, e⟩

theorem fr1 (n : Nat) (d : List Int) (A B : List Nat) : fr n 1 d A B = (gap 1 n d A B, 1) := by
  unfold fr den
  rw [if_neg (by decide)]
theorem less1 (x y : Int) : lessB (x, 1) (y, 1) = decide (x < y) := by unfold lessB; simp

/-- The height of a round. -/
def hg (n : Nat) (d : List Int) (i : Nat) : Int := ((runL n 1 d).getD i mg0).N

theorem Rd.hgt {n : Nat} {d : List Int} (hd : DOk n d) {i a b : Nat} (h : Rd n 1 d i a b) : hg n d i = gap 1 n d (CL (clS n 1 d i) a) (CL (clS n 1 d i) b) ∧ ((runL n 1 d).getD i mg0).D = 1 := by
  have hden : den 1 (CL (clS n 1 d i) a) (CL (clS n 1 d i) b) = 1 := by unfold den; rw [if_neg (by decide)]
  have h0 := (gap_le_den (m := 1) (.inl rfl) hd h.na h.nb).1
  have hm := h.mg
  rw [hden] at hm
  unfold hg
  rw [hm]
  generalize gap 1 n d (CL (clS n 1 d i) a) (CL (clS n 1 d i) b) = g at *
  have hgcd : Nat.gcd g.toNat (1 : Int).toNat = 1 := Nat.gcd_one_right _
  constructor
  · show lowN g 1 = g
    unfold lowN
    rw [hgcd]
    exact Int.ediv_one g
  · show lowD g 1 = 1
    unfold lowD
    rw [hgcd]
    rfl

theorem hg_next {n : Nat} {d : List Int} (hd : DOk n d) {i : Nat} (hi : i + 2 < n) : hg n d i ≤ hg n d (i + 1) := by
  obtain ⟨a, b, h⟩ := rd_of hd (m := 1) (.inl rfl) (i := i) (by omega)
  obtain ⟨a', b', k⟩ := rd_of hd (m := 1) (.inl rfl) (i := i + 1) (by omega)
  have := heights hd (.inl rfl) hi h k
  rw [fr1, fr1, less1, decide_eq_false_iff_not] at this
  rw [(h.hgt hd).1, (k.hgt hd).1]
  omega
theorem hg_mono {n : Nat} {d : List Int} (hd : DOk n d) {i : Nat} : ∀ j, i + j + 1 < n → hg n d i ≤ hg n d (i + j)
  | 0, _ => Int.le_refl _
  | j + 1, h => Int.le_trans (hg_mono hd j (by omega)) (hg_next hd (i := i + j) (by omega))

theorem CL_clS {n : Nat} {d : List Int} (hd : DOk n d) {i a b : Nat} (hi : i + 1 < n) (h : Rd n 1 d i a b) (x : Nat) : CL (clS n 1 d (i + 1)) x = if x = b then [] else if x = a then CL (clS n 1 d i) a ++ CL (clS n 1 d i) b else CL (clS n 1 d i) x := by
  have inv := runS_inv hd (m := 1) (.inl rfl) i (by omega)
  have hl := inv.len
  have hab := h.lt
  have hbn := h.hb
  rw [h.next, CL_clU (by omega) (by omega) (by omega)]

/-- What is in one cluster is connected by near pairs. -/
theorem cl_con {n : Nat} {d : List Int} (hd : DOk n d) (hn : 0 < n) {th : Int} : ∀ k, k + 1 ≤ n → (∀ i, i < k → hg n d i ≤ th) → ∀ c x y, x ∈ CL (clS n 1 d k) c → y ∈ CL (clS n 1 d k) c → Con (RD n d th) x y
  | 0, hk, _, c, x, y, hx, hy => by
    have inv := runS_inv hd (m := 1) (.inl rfl) 0 (by omega)
    have e : ∀ z, z ∈ CL (clS n 1 d 0) c → z = c := fun z hz => by
      have hc : c < n := by rw [← inv.len]; exact CL_lt (fun e => by rw [e] at hz; simp at hz)
      have : CL (clS n 1 d 0) c = [c] := by
        show ((List.range n).map fun i => [i]).getD c [] = [c]
        rw [List.getD_eq_getElem?_getD, List.getElem?_map, List.getElem?_range hc]; rfl
      rw [this, List.mem_singleton] at hz
      exact hz
    rw [e x hx, e y hy]
    exact .refl _
  | k + 1, hk, hh, c, x, y, hx, hy => by
    have ih := cl_con hd hn (th := th) k (by omega) (fun i hi => hh i (by omega))
    have inv := runS_inv hd (m := 1) (.inl rfl) k (by omega)
    obtain ⟨a, b, h⟩ := rd_of hd (m := 1) (.inl rfl) (i := k) (by omega)
    rw [CL_clS hd (by omega) h] at hx hy
    by_cases c1 : c = b
    · rw [if_pos c1] at hx; cases hx
    · rw [if_neg c1] at hx hy
      by_cases c2 : c = a
      · rw [if_pos c2] at hx hy
        obtain ⟨i, hi, j, hj, e⟩ := gap_is (n := n) (d := d) h.na h.nb
        have hth : at2 n d i j ≤ th := by
          rw [← e, ← (h.hgt hd).1]
          exact hh k (by omega)
        have hne : i ≠ j := fun e => by
          subst e
          have := CL_unique (inv.perm.nodup_iff.2 List.nodup_range) hi hj
          have := h.lt
          omega
        have hij : Con (RD n d th) i j := (Con.refl _).step (.inl ⟨inv.mem_lt hi, inv.mem_lt hj, hne, hth⟩)
        have key : ∀ z, z ∈ CL (clS n 1 d k) a ++ CL (clS n 1 d k) b → Con (RD n d th) i z := fun z hz => by
          rcases List.mem_append.1 hz with hz | hz
          · exact ih a i z hi hz
          · exact hij.trans (ih b j z hj hz)
        exact (key x hx).symm.trans (key y hy)
      · rw [if_neg c2] at hx hy
        exact ih c x y hx hy

/-- Each point lies in a cluster. -/
theorem LInv.cover {n : Nat} {m : Int} {d : List Int} {k : Nat} {sz bt : List Int} {cl : List (List Nat)} (h : LInv n m d k sz bt cl) {x : Nat} (hx : x < n) : ∃ c, c < n ∧ x ∈ CL cl c := by
  have : x ∈ cl.flatten := h.perm.mem_iff.2 (List.mem_range.2 hx)
  obtain ⟨l, hl1, hl2⟩ := List.mem_flatten.1 this
  obtain ⟨j, hj⟩ := List.getElem?_of_mem hl1
  have ej : CL cl j = l := by unfold CL; rw [List.getD_eq_getElem?_getD, hj]; rfl
  exact ⟨j, by rw [← h.len]; exact (List.getElem?_eq_some_iff.1 hj).1, by rw [ej]; exact hl2⟩

/-- How many clusters there are. -/
theorem live_count {cl : List (List Nat)} : (cl.filter fun l => !l.isEmpty).length = (List.range cl.length).countP fun i => !(CL cl i).isEmpty := by
  have e : cl = (List.range cl.length).map (CL cl) := by
    apply List.ext_getElem?
    intro i
    by_cases h : i < cl.length
    · rw [List.getElem?_map, List.getElem?_range h, List.getElem?_eq_getElem h]
      show some _ = some _
      unfold CL
      rw [List.getD_eq_getElem?_getD, List.getElem?_eq_getElem h]; rfl
    · rw [List.getElem?_eq_none (by omega), List.getElem?_eq_none (by simp; omega)]
  conv => lhs; rw [e]
  rw [← List.countP_eq_length_filter, List.countP_map]
  rfl

/-- At a stage between the heights the clusters are what near pairs connect. -/
theorem cl_comp {n : Nat} {d : List Int} (hd : DOk n d) (hn : 0 < n) {th : Int} {k : Nat} (hk : k + 1 ≤ n) (h1 : ∀ i, i < k → hg n d i ≤ th) (h2 : k + 1 < n → th < hg n d k) {x y : Nat} (hx : x < n) (hc : Con (RD n d th) x y) : ∃ c, c < n ∧ x ∈ CL (clS n 1 d k) c ∧ y ∈ CL (clS n 1 d k) c := by
  have inv := runS_inv hd (m := 1) (.inl rfl) k (by omega)
  induction hc with
  | refl =>
    obtain ⟨c, h, h'⟩ := inv.cover hx
    exact ⟨c, h, h', h'⟩
  | @step y z _ hr ih =>
    obtain ⟨c, hc, hxc, hyc⟩ := ih
    have hr' : y < n ∧ z < n ∧ y ≠ z ∧ at2 n d y z ≤ th := by
      rcases hr with h | ⟨a1, a2, a3, a4⟩
      · exact h
      · exact ⟨a2, a1, fun e => a3 e.symm, by rw [hd.sym y z a2 a1]; exact a4⟩
    obtain ⟨_, hz, _, hle⟩ := hr'
    obtain ⟨c', hc', hzc⟩ := inv.cover hz
    by_cases e : c = c'
    · subst e; exact ⟨c, hc, hxc, hzc⟩
    · exfalso
      have hk1 : k + 1 < n := by
        apply Classical.byContradiction
        intro hlt
        have hlive := inv.live
        have h1 : (clS n 1 d k).flatten.length = n := by rw [inv.perm.length_eq, List.length_range]
        have hl0 := inv.last hn (by omega)
        have := inv.lens (i := 0) (j := 1) (by omega)
        have full : ∀ z, z < n → z ∈ CL (clS n 1 d k) 0 := by
          intro z hz
          have hnd := flatten_CL_nodup (inv.perm.nodup_iff.2 List.nodup_range) 0
          apply Classical.byContradiction
          intro hno
          have hb := nodup_bound n (z :: CL (clS n 1 d k) 0) (List.nodup_cons.2 ⟨hno, hnd⟩) (fun w hw => by
            rcases List.mem_cons.1 hw with rfl | hw
            · exact hz
            · exact inv.mem_lt hw)
          rw [List.length_cons] at hb
          omega
        have nd := inv.perm.nodup_iff.2 List.nodup_range
        have e1 := CL_unique nd hyc (full _ (by
          rcases hr with h | ⟨_, a2, _⟩
          · exact h.1
          · exact a2))
        have e2 := CL_unique nd hzc (full _ hz)
        omega
      obtain ⟨a, b, h⟩ := rd_of hd (m := 1) (.inl rfl) hk1
      have hlow := h.low' hd (.inl rfl) hk1 e (List.ne_nil_of_mem hyc) (List.ne_nil_of_mem hzc)
      rw [fr1, fr1, less1, decide_eq_false_iff_not] at hlow
      have g1 := gap_le (n := n) (d := d) hyc hzc
      have g2 := h2 hk1
      rw [(h.hgt hd).1] at g2
      omega

/-- The stage that belongs to a threshold. -/
theorem stage_of {n : Nat} {d : List Int} (hd : DOk n d) (hn : 0 < n) (th : Int) : ∃ k, k + 1 ≤ n ∧ (∀ i, i < k → hg n d i ≤ th) ∧ (k + 1 < n → th < hg n d k) := by
  have : ∀ j, j + 1 ≤ n → ∃ k, k ≤ j ∧ (∀ i, i < k → hg n d i ≤ th) ∧ (k < j → th < hg n d k) := by
    intro j
    induction j with
    | zero => intro _; exact ⟨0, Nat.le_refl _, fun i hi => by omega, fun h => by omega⟩
    | succ j ih =>
      intro hj
      obtain ⟨k, h1, h2, h3⟩ := ih (by omega)
      by_cases e : k < j
      · exact ⟨k, by omega, h2, fun _ => h3 e⟩
      · obtain rfl : k = j := by omega
        by_cases c : hg n d k ≤ th
        · exact ⟨k + 1, Nat.le_refl _, fun i hi => by
            by_cases e2 : i < k
            · exact h2 i e2
            · obtain rfl : i = k := by omega
              exact c, fun h => by omega⟩
        · exact ⟨k, by omega, h2, fun _ => by omega⟩
  obtain ⟨k, h1, h2, h3⟩ := this (n - 1) (by omega)
  exact ⟨k, by omega, h2, fun h => h3 (by omega)⟩

/-- The forest's labels at a threshold are those of the clusters at the stage. -/
theorem stage_lab {n : Nat} {d : List Int} {l : List Ed} (hd : DOk n d) (hgo : GOk n l) (hn : 0 < n) {th : Int} (hcon : ∀ x y, x < n → y < n → (Con (CTh l th) x y ↔ Con (RD n d th) x y)) {k : Nat} (hk : k + 1 ≤ n) (h1 : ∀ i, i < k → hg n d i ≤ th) (h2 : k + 1 < n → th < hg n d k) :
    (∀ x, x < n → x ∈ CL (clS n 1 d k) ((foTo n l (cutT l th)).k.getD x 0)) ∧ (foTo n l (cutT l th)).out.length = k := by
  have inv := runS_inv hd (m := 1) (.inl rfl) k (by omega)
  have hlab := foTo_cut hgo th
  have nd := inv.perm.nodup_iff.2 List.nodup_range
  have key : ∀ x, x < n → x ∈ CL (clS n 1 d k) ((foTo n l (cutT l th)).k.getD x 0) := by
    intro x hx
    obtain ⟨c, hc, hxc⟩ := inv.cover hx
    have hle := hlab.le x hx
    have hKx : (foTo n l (cutT l th)).k.getD x 0 < n := by omega
    have hcc := (hcon x _ hx hKx).1 (hlab.con x hx)
    obtain ⟨c', _, h3, h4⟩ := cl_comp hd hn hk h1 h2 hx hcc
    obtain rfl := CL_unique nd hxc h3
    have hhead : c ∈ CL (clS n 1 d k) c := by
      have := inv.head c (List.ne_nil_of_mem hxc)
      exact List.mem_of_mem_head? (by rw [this]; rfl)
    have hcx := (hcon x c hx hc).2 (cl_con hd hn k hk h1 c x c hxc hhead)
    have e1 := hlab.eq_of hcx
    have e2 := hlab.le c hc
    have e3 := inv.least c _ h4
    have : (foTo n l (cutT l th)).k.getD x 0 = c := by omega
    rw [this]
    exact hxc
  refine ⟨key, ?_⟩
  have hr := foTo_roots hgo (cutT l th) (cutT_le l th)
  have hlive := inv.live
  rw [live_count, inv.len] at hlive
  have : roots n (foTo n l (cutT l th)).k = (List.range n).countP fun i => !(CL (clS n 1 d k) i).isEmpty := by
    unfold roots
    apply List.countP_congr
    intro x hx
    rw [List.mem_range] at hx
    rw [decide_eq_true_eq]
    constructor
    · intro e
      have := key x hx
      rw [e] at this
      cases hcl : CL (clS n 1 d k) x with
      | nil => rw [hcl] at this; cases this
      | cons a l => rfl
    · intro e
      have hne : CL (clS n 1 d k) x ≠ [] := fun h => by rw [h] at e; cases e
      have hhead : x ∈ CL (clS n 1 d k) x := List.mem_of_mem_head? (by rw [inv.head x hne]; rfl)
      exact CL_unique nd (key x hx) hhead
  omega

/-- Single linkage and the forest. -/
theorem single_forest {n : Nat} {d : List Int} {l : List Ed} (hd : DOk n d) (hgo : GOk n l) (hn : 0 < n) (hcon : ∀ th x y, x < n → y < n → (Con (CTh l th) x y ↔ Con (RD n d th) x y)) :
    FN n l + 1 = n ∧ (∀ i, i + 1 < n → hg n d i = wI l (fe n l i)) := by
  have hcut : ∀ th k, k + 1 ≤ n → (∀ i, i < k → hg n d i ≤ th) → (k + 1 < n → th < hg n d k) → cutJ n l th = k := fun th k h1 h2 h3 => (stage_lab hd hgo hn (hcon th) h1 h2 h3).2
  -- a threshold above all
  have hmax : ∃ T : Int, (∀ i, i + 1 < n → hg n d i ≤ T) ∧ ∀ i, i < l.length → wI l i ≤ T := by
    have up : ∀ (f : Nat → Int) (N : Nat), ∃ T : Int, ∀ i, i < N → f i ≤ T := fun f N => by
      induction N with
      | zero => exact ⟨0, fun i hi => by omega⟩
      | succ N ih =>
        obtain ⟨T, hT⟩ := ih
        refine ⟨max T (f N), fun i hi => ?_⟩
        by_cases e : i < N
        · have := hT i e; omega
        · obtain rfl : i = N := by omega
          omega
    obtain ⟨T1, h1⟩ := up (hg n d) (n - 1)
    obtain ⟨T2, h2⟩ := up (wI l) l.length
    exact ⟨max T1 T2, fun i hi => by have := h1 i (by omega); omega, fun i hi => by have := h2 i hi; omega⟩
  obtain ⟨T, hT1, hT2⟩ := hmax
  have hF : FN n l + 1 = n := by
    have e := hcut T (n - 1) (by omega) (fun i hi => hT1 i (by omega)) (fun h => by omega)
    have : cutT l T = l.length := by
      unfold cutT
      rw [List.countP_eq_length.2 (fun i hi => decide_eq_true (hT2 i (ord_lt hi))), ord_length]
    unfold cutJ at e
    rw [this] at e
    have e2 : (foTo n l l.length).out.length = FN n l := rfl
    omega
  refine ⟨hF, fun i hi => ?_⟩
  have hiff : ∀ th, wI l (fe n l i) ≤ th ↔ hg n d i ≤ th := fun th => by
    obtain ⟨k, k1, k2, k3⟩ := stage_of hd hn th
    rw [cutJ_at (n := n) (by omega), hcut th k k1 k2 k3]
    constructor
    · exact k2 i
    · intro h
      apply Classical.byContradiction
      intro hc
      have hk : k + 1 < n := by omega
      have := k3 hk
      have := hg_mono hd (i := k) (i - k) (by omega)
      rw [show k + (i - k) = i by omega] at this
      omega
  have a := (hiff (wI l (fe n l i))).1 (Int.le_refl _)
  have b := (hiff (hg n d i)).2 (Int.le_refl _)
  omega

theorem single_den {n : Nat} {d : List Int} (hd : DOk n d) {i : Nat} (hi : i + 1 < n) : ((runL n 1 d).getD i mg0).D = 1 := by
  obtain ⟨a, b, h⟩ := rd_of hd (m := 1) (.inl rfl) hi
  exact (h.hgt hd).2

end Go.Proofs.Ythacjealoomioaa.Lk
