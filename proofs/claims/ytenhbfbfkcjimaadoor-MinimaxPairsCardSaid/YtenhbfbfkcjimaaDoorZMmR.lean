/- The number of joined pairs, plain. No program in sight. -/
import Derived.Test.YtenhbfbfkcjimaaDoorZMmU
import Derived.Test.YtenhbfbfkcjimaaDoorZMgJ
namespace Go.Proofs.YtenhbfbfkcjimaaDoor
set_option linter.unusedVariables false
set_option linter.unusedSimpArgs false

def sumTo (g : Nat → Nat) : Nat → Nat
  | 0 => 0
  | x + 1 => sumTo g x + g x
/-- Those before u that are as v is. -/
def inP (f : Nat → Nat) (v u : Nat) : Nat := ((List.range u).filter fun x => decide (f x = f v)).length
/-- Pairs that are alike. -/
def prT (f : Nat → Nat) : Nat → Nat
  | 0 => 0
  | v + 1 => prT f v + inP f v v
def clsN (f : Nat → Nat) (n x : Nat) : Nat := ((List.range n).filter fun v => decide (f v = x)).length

theorem inP_succ (f : Nat → Nat) (v u : Nat) : inP f v (u + 1) = inP f v u + if f u = f v then 1 else 0 := by
  unfold inP
  rw [List.range_succ, List.filter_append, List.length_append]
  congr 1
  by_cases h : f u = f v
  · simp [h]
  · simp [h]
theorem inP_le (f : Nat → Nat) (v u : Nat) : inP f v u ≤ u := by
  have := List.length_filter_le (fun x => decide (f x = f v)) (List.range u)
  rw [List.length_range] at this
  exact this
theorem prT_le (f : Nat → Nat) : ∀ n, prT f n ≤ n * n
  | 0 => Nat.le_refl _
  | n + 1 => by
    have h1 := prT_le f n
    have h2 := inP_le f n n
    show prT f n + inP f n n ≤ (n + 1) * (n + 1)
    have : (n + 1) * (n + 1) = n * n + 2 * n + 1 := by
      rw [Nat.add_mul, Nat.mul_add]; omega
    omega
theorem inP_mono {f g : Nat → Nat} {v n : Nat} (h : ∀ u, u < n → f u = f v → g u = g v) : ∀ u, u ≤ n → inP f v u ≤ inP g v u
  | 0, _ => Nat.le_refl _
  | u + 1, hu => by
    have ih := inP_mono h u (by omega)
    rw [inP_succ, inP_succ]
    by_cases e : f u = f v
    · rw [if_pos e, if_pos (h u (by omega) e)]; omega
    · rw [if_neg e]; omega
theorem prT_mono {f g : Nat → Nat} {n : Nat} (h : ∀ u v, u < v → v < n → f u = f v → g u = g v) : ∀ k, k ≤ n → prT f k ≤ prT g k
  | 0, _ => Nat.le_refl _
  | k + 1, hk => by
    have ih := prT_mono h k (by omega)
    have := inP_mono (f := f) (g := g) (v := k) (n := k) (fun u hu => h u k hu (by omega)) k (Nat.le_refl _)
    show prT f k + inP f k k ≤ prT g k + inP g k k
    omega

theorem clsN_succ (f : Nat → Nat) (n x : Nat) : clsN f (n + 1) x = clsN f n x + if f n = x then 1 else 0 := by
  unfold clsN
  rw [List.range_succ, List.filter_append, List.length_append]
  congr 1
  by_cases h : f n = x
  · simp [h]
  · simp [h]
theorem pairs2_succ (k : Nat) : pairs2 (k + 1) = pairs2 k + k := by
  unfold pairs2
  rw [Nat.add_sub_cancel]
  cases k with
  | zero => rfl
  | succ k =>
    rw [Nat.add_sub_cancel]
    have : (k + 1 + 1) * (k + 1) = (k + 1) * k + (k + 1) * 2 := by rw [← Nat.mul_add, Nat.mul_comm]
    rw [this, Nat.add_mul_div_right _ _ (by decide)]

theorem sumTo_add {g h : Nat → Nat} {p q : Nat} (hg : ∀ x, x ≠ p → g x = h x) (hp : g p = h p + q) : ∀ m, sumTo g m = sumTo h m + if p < m then q else 0
  | 0 => by simp [sumTo]
  | m + 1 => by
    have ih := sumTo_add hg hp m
    show sumTo g m + g m = sumTo h m + h m + _
    by_cases e : m = p
    · subst e
      rw [hp, ih, if_neg (by omega), if_pos (by omega)]; omega
    · rw [hg m e, ih]
      by_cases c : p < m
      · rw [if_pos c, if_pos (by omega)]; omega
      · rw [if_neg c, if_neg (by omega)]; omega

theorem sumTo_congr {g h : Nat → Nat} : ∀ m, (∀ x, x < m → g x = h x) → sumTo g m = sumTo h m
  | 0, _ => rfl
  | m + 1, e => by
    show sumTo g m + g m = sumTo h m + h m
    rw [sumTo_congr m (fun x hx => e x (by omega)), e m (by omega)]

theorem prT_sum (f : Nat → Nat) (m : Nat) : ∀ n, (∀ v, v < n → f v < m) → prT f n = sumTo (fun x => pairs2 (clsN f n x)) m
  | 0, _ => by
    show 0 = _
    have : ∀ k, sumTo (fun x => pairs2 (clsN f 0 x)) k = 0 := fun k => by
      induction k with
      | zero => rfl
      | succ k ih => show sumTo _ k + pairs2 (clsN f 0 k) = 0; rw [ih, Nat.zero_add]; unfold clsN; simp [pairs2]
    exact (this m).symm
  | n + 1, h => by
    have ih := prT_sum f m n (fun v hv => h v (by omega))
    show prT f n + inP f n n = _
    rw [ih, sumTo_add (g := fun x => pairs2 (clsN f (n + 1) x)) (h := fun x => pairs2 (clsN f n x)) (p := f n) (q := clsN f n (f n)) (fun x hx => ?_) ?_ m, if_pos (h n (by omega))]
    · rfl
    · show pairs2 (clsN f (n + 1) (f n)) = pairs2 (clsN f n (f n)) + _
      rw [clsN_succ, if_pos rfl, pairs2_succ]
    · show pairs2 (clsN f (n + 1) x) = pairs2 (clsN f n x)
      rw [clsN_succ, if_neg (fun e => hx e.symm)]; rfl

/-- Below a highest node are the leaves whose top it is. -/
theorem bl_ab {t : Tr} {n m : Nat} {ls : List Nat} (h : TV t n m ls) {th : Int} {x : Nat} (h1 : n ≤ x) (h2 : x < m) (hh : gi t.hgt x ≤ th) (ht : topB t th x = true) : ∀ v, v < m → (bl t m x v = true ↔ ab t m th v = x) := by
  refine h.down (fun v hv hp => ?_) (fun v p hv hp hvp hn e ih => ?_)
  · rw [bl_root h hv hp, ab_root h hv hp, decide_eq_true_eq]
  · rw [bl_par h hv e, ab_par h hv e, Bool.or_eq_true, decide_eq_true_eq]
    by_cases hvx : v = x
    · subst hvx
      have : ¬ gi t.hgt p ≤ th := by
        unfold topB at ht
        rw [e, Int.toNat_natCast] at ht
        simp only [Bool.or_eq_true, decide_eq_true_eq] at ht
        omega
      rw [if_neg this]; simp
    · by_cases hp2 : gi t.hgt p ≤ th
      · rw [if_pos hp2, ← ih]; simp [hvx]
      · rw [if_neg hp2]
        refine ⟨fun hb => ?_, fun hb => absurd hb hvx⟩
        rcases hb with hb | hb
        · exact absurd hb hvx
        · have hle := bl_le h p hp hb
          have := h.mono hn (x - p) (by omega)
          rw [show p + (x - p) = x by omega] at this
          omega

/-- The pairs below the highest nodes are the pairs with one top. -/
theorem cnt_pr {t : Tr} {n m : Nat} {ls : List Nat} (h : TV t n m ls) (th : Int) : cntT t n th m = prT (ab t m th) n := by
  have hnm := h.nm
  rw [prT_sum (ab t m th) m n (fun v hv => (ab_lt h th v (by omega)).1)]
  have key : ∀ k, k ≤ m → cntT t n th k = sumTo (fun x => pairs2 (clsN (ab t m th) n x)) k := by
    intro k
    induction k with
    | zero => intro _; rfl
    | succ x ih =>
      intro hk
      show cntT t n th x + _ = sumTo _ x + pairs2 (clsN (ab t m th) n x)
      rw [ih (by omega)]
      congr 1
      by_cases hc : n ≤ x ∧ gi t.hgt x ≤ th ∧ topB t th x = true
      · rw [if_pos hc, lv_size h x (by omega), Int.toNat_natCast]
        congr 1
        unfold leavesL clsN
        congr 1
        refine List.filter_congr fun v hv => ?_
        rw [List.mem_range] at hv
        have := bl_ab h hc.1 (by omega) hc.2.1 hc.2.2 v (by omega)
        by_cases e : ab t m th v = x
        · rw [this.2 e]; simp [e]
        · have hb : bl t m x v = false := by
            cases hb : bl t m x v with
            | false => rfl
            | true => exact absurd (this.1 hb) e
          rw [hb]; simp [e]
      · rw [if_neg hc]
        have hends : ∀ v, v < n → ab t m th v = x → v = x := fun v hv e => by
          obtain ⟨_, a2, a3⟩ := ab_end h th v (by omega)
          rw [e] at a2 a3
          rcases a2 with a2 | a2
          · exact a2.symm
          · refine absurd ⟨a2.1, a2.2, ?_⟩ hc
            unfold topB
            rcases a3 with a3 | ⟨p, a3, _, a4⟩
            · simp [a3]
            · rw [a3, Int.toNat_natCast]; simp [a4]
        have h1 : clsN (ab t m th) n x ≤ 1 := by
          unfold clsN
          have hs : ((List.range n).filter fun v => decide (ab t m th v = x)).length ≤ ((List.range n).filter fun v => decide (v = x)).length := by
            rw [← List.countP_eq_length_filter, ← List.countP_eq_length_filter]
            refine List.countP_mono_left fun v hv hx => ?_
            rw [decide_eq_true_eq] at hx ⊢
            exact hends v (List.mem_range.1 hv) hx
          have h2 : ((List.range n).filter fun v => decide (v = x)).length ≤ 1 := by
            rw [← List.countP_eq_length_filter]
            have : List.countP (fun v => decide (v = x)) (List.range n) = List.count x (List.range n) := by
              unfold List.count
              congr 1
            rw [this]
            exact List.nodup_iff_count.1 List.nodup_range x
          omega
        have : clsN (ab t m th) n x = 0 ∨ clsN (ab t m th) n x = 1 := by omega
        rcases this with e | e <;> rw [e] <;> rfl
  exact key m (Nat.le_refl _)

/-- One top: joined. -/
theorem ab_mm {n : Nat} {l : List Ed} (hg : GOk n l) (th : Int) {u v : Nat} (hu : u < n) (hv : v < n) (hne : u ≠ v) : ab (bdL n l) (n + FN n l) th u = ab (bdL n l) (n + FN n l) th v ↔ ∃ d, mmV n l u v = some d ∧ d ≤ th := by
  have tv := bdL_tv3 hg
  rw [mm_iff hg hu hv hne th, top_label tv th hu hv, ← labels_graph hg th]
  have e : ∀ x, x < n → (labelsL (bdL n l) n (n + FN n l) (lsB n l (FN n l)) th).getD x 0 = (lsB n l (FN n l)).getD (ab (bdL n l) (n + FN n l) th x) 0 := fun x hx => by
    unfold labelsL
    rw [List.getD_eq_getElem?_getD, List.getElem?_map, List.getElem?_range hx]; rfl
  rw [e u hu, e v hv]

theorem cnt_mono {n : Nat} {l : List Ed} (hg : GOk n l) {a b : Int} (hab : a ≤ b) : cntT (bdL n l) n a (n + FN n l) ≤ cntT (bdL n l) n b (n + FN n l) := by
  have tv := bdL_tv3 hg
  rw [cnt_pr tv, cnt_pr tv]
  refine prT_mono (n := n) (fun u v huv hv e => ?_) n (Nat.le_refl _)
  obtain ⟨d, h1, h2⟩ := (ab_mm hg a (by omega) hv (by omega)).1 e
  exact (ab_mm hg b (by omega) hv (by omega)).2 ⟨d, h1, by omega⟩

end Go.Proofs.YtenhbfbfkcjimaaDoor
