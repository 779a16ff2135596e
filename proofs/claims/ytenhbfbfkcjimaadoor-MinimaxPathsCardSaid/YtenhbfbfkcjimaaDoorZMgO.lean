/- Several texts in one: FlatV, MmIn, MmU, MmR, MmX. -/
import Derived.Test.YtenhbfbfkcjimaaDoorZMgA
import Derived.Test.YtenhbfbfkcjimaaDoorZRcA
import Derived.Test.YtenhbfbfkcjimaaDoorZMgJ
import Derived.Test.YtenhbfbfkcjimaaDoorZMgH
/- Structs and arrays of integers that come in by value. No program in sight. -/
namespace Go.Proofs.YtenhbfbfkcjimaaDoor
set_option linter.unusedVariables false
set_option linter.unusedSimpArgs false
open Go.ChangeShapes Go.WideShapes Go.RowKit Go.Deep

theorem okWide_arrayV {P : Program} {w : World} {r : Reach} {base : Nat} {t e : TypeId} {n : Nat} {v : Value} (ht : P.underlying t = some (.array n e)) (h : Value.okWide P w r base t v) : ∃ cs, v = .agg cs ∧ cs.size = P.cellsOf t := by
  simp only [Value.okWide, ht] at h
  obtain ⟨cs, h1, h2, _⟩ := h
  exact ⟨cs, h1, h2⟩

theorem flat_agg {H : Type} {enc : TypeId × Value → H} {P : Program} {w : World} {base : Nat} {spare : Nat → Bool} {held : Bool} {t : TypeId} {ks : List IntKind} {cs : Array Value} {d : DataW H} {p : List MemPlace}
    (hF : Flat P t ks) (h : DataW.Trod enc P w base spare held t (.agg cs) d p) : ∃ zs : List Int, zs.length = ks.length ∧ (Value.agg cs) = .agg (List.zipWith Value.int ks zs).toArray ∧ ∀ (j : Nat) (k : IntKind) (z : Int), ks[j]? = some k → zs[j]? = some z → (Lit.int k z).wf = true := by
  obtain ⟨fuel, hf⟩ := h
  obtain ⟨zs, h1, h2, h3⟩ := hF.2 _ _ _ _ _ _ _ _ hf
  refine ⟨zs, h1, ?_, h3⟩
  rw [← h2]
  simp [Value.cells]

theorem flat_struct {H : Type} {enc : TypeId × Value → H} {P : Program} {w : World} {base : Nat} {spare : Nat → Bool} {held : Bool} {r : Reach} {b0 : Nat} {t : TypeId} {fs : Array Field} {ks : List IntKind} {v : Value} {d : DataW H} {p : List MemPlace}
    (ht : P.underlying t = some (.struct fs)) (hF : Flat P t ks) (hv : Value.okWide P w r b0 t v) (h : DataW.Trod enc P w base spare held t v d p) : ∃ zs : List Int, zs.length = ks.length ∧ v = .agg (List.zipWith Value.int ks zs).toArray ∧ ∀ (j : Nat) (k : IntKind) (z : Int), ks[j]? = some k → zs[j]? = some z → (Lit.int k z).wf = true := by
  obtain ⟨cs, rfl, _⟩ := okWide_struct ht hv
  exact flat_agg hF h

theorem flat_array {H : Type} {enc : TypeId × Value → H} {P : Program} {w : World} {base : Nat} {spare : Nat → Bool} {held : Bool} {r : Reach} {b0 : Nat} {t e : TypeId} {n : Nat} {ks : List IntKind} {v : Value} {d : DataW H} {p : List MemPlace}
    (ht : P.underlying t = some (.array n e)) (hF : Flat P t ks) (hv : Value.okWide P w r b0 t v) (h : DataW.Trod enc P w base spare held t v d p) : ∃ zs : List Int, zs.length = ks.length ∧ v = .agg (List.zipWith Value.int ks zs).toArray ∧ ∀ (j : Nat) (k : IntKind) (z : Int), ks[j]? = some k → zs[j]? = some z → (Lit.int k z).wf = true := by
  obtain ⟨cs, rfl, _⟩ := okWide_arrayV ht hv
  exact flat_agg hF h

/-- Three integers. -/
theorem three {k1 k2 k3 : IntKind} {v : Value} (h : ∃ zs : List Int, zs.length = [k1, k2, k3].length ∧ v = .agg (List.zipWith Value.int [k1, k2, k3] zs).toArray ∧ ∀ (j : Nat) (k : IntKind) (z : Int), [k1, k2, k3][j]? = some k → zs[j]? = some z → (Lit.int k z).wf = true) :
    ∃ x y z : Int, v = .agg #[.int k1 x, .int k2 y, .int k3 z] ∧ (Lit.int k1 x).wf = true ∧ (Lit.int k2 y).wf = true ∧ (Lit.int k3 z).wf = true := by
  obtain ⟨zs, hl, hv, hw⟩ := h
  match zs, hl with
  | [x, y, z], _ => exact ⟨x, y, z, hv, hw 0 _ _ rfl rfl, hw 1 _ _ rfl rfl, hw 2 _ _ rfl rfl⟩

end Go.Proofs.YtenhbfbfkcjimaaDoor

/- What comes into the statements of layer 20. -/
namespace Go.Proofs.YtenhbfbfkcjimaaDoor
set_option linter.unusedVariables false
set_option linter.unusedSimpArgs false
open Go.RowKit

/-- The weights are such of the type. -/
def WOk (l : List Ed) : Prop := ∀ i, i < l.length → -9223372036854775808 ≤ (EA l i).W ∧ (EA l i).W ≤ 9223372036854775807

theorem i64_b {x : Int} (h : (Lit.int .i64 x).wf = true) : -9223372036854775808 ≤ x ∧ x ≤ 9223372036854775807 := by
  simp [Lit.wf, IntKind.min, IntKind.max, IntKind.signed, IntKind.bits] at h
  exact ⟨by omega, by omega⟩

/-- Edges that came in. -/
def edF (len : Nat) (F : Nat → Nat → Int) : List Ed := (List.range len).map fun i => ⟨F i 0, F i 1, F i 2⟩
theorem edF_at {len : Nat} {F : Nat → Nat → Int} {i : Nat} (hi : i < len) : EA (edF len F) i = ⟨F i 0, F i 1, F i 2⟩ := by
  unfold EA edF
  rw [List.getD_eq_getElem?_getD, List.getElem?_map, List.getElem?_range hi]; rfl
theorem erow_in {w : World} {ao : Option Addr} {len cap b off : Nat} {F : Nat → Nat → Int} (h : FRow w ao len cap b off [.i64, .i64, .i64] F) : ERow w ao len b off (edF len F) := by
  refine ⟨by unfold edF; simp, h.adr, fun i hi => ?_⟩
  rw [edF_at hi]
  exact ⟨h.cell i hi 0 .i64 rfl, h.cell i hi 1 .i64 rfl, h.cell i hi 2 .i64 rfl⟩
theorem wok_in {w : World} {ao : Option Addr} {len cap b off : Nat} {F : Nat → Nat → Int} (h : FRow w ao len cap b off [.i64, .i64, .i64] F) : WOk (edF len F) := by
  intro i hi
  have hi' : i < len := by unfold edF at hi; simpa using hi
  rw [edF_at hi']
  exact i64_b (h.wf i hi' 2 .i64 rfl)

end Go.Proofs.YtenhbfbfkcjimaaDoor

/- Plain laws of the minimax distance: symmetric, an ultrametric, joined at thresholds. No program in sight. -/
namespace Go.Proofs.YtenhbfbfkcjimaaDoor
set_option linter.unusedVariables false
set_option linter.unusedSimpArgs false

theorem comV_symm (t : Tr) (m a b : Nat) : comV t m a b = comV t m b a := by
  unfold comV
  congr 1
  funext c
  exact Bool.and_comm _ _
theorem mV_symm (n : Nat) (l : List Ed) (u v : Int) : mV n l u v = mV n l v u := by
  unfold mV
  by_cases h : (0 ≤ u ∧ u < n) ∧ (0 ≤ v ∧ v < n) ∧ u ≠ v
  · rw [if_pos h, if_pos ⟨h.2.1, h.1, h.2.2.symm⟩, comV_symm]
  · rw [if_neg h, if_neg (fun h' => h ⟨h'.2.1, h'.1, h'.2.2.symm⟩)]
theorem mmV_symm (n : Nat) (l : List Ed) (u v : Int) : mmV n l u v = mmV n l v u := by
  unfold mmV
  by_cases h : (0 ≤ u ∧ u < n) ∧ u = v
  · obtain ⟨h1, rfl⟩ := h; rfl
  · rw [if_neg h, if_neg (fun h' => h ⟨by omega, h'.2.symm⟩), mV_symm]

theorem mV_in {n : Nat} {l : List Ed} {u v : Int} {c : Nat} (h : mV n l u v = some c) : (0 ≤ u ∧ u < n) ∧ (0 ≤ v ∧ v < n) ∧ u ≠ v := by
  unfold mV at h
  split at h
  · assumption
  · cases h
theorem mmV_in {n : Nat} {l : List Ed} {u v d : Int} (h : mmV n l u v = some d) : (0 ≤ u ∧ u < n) ∧ (0 ≤ v ∧ v < n) := by
  unfold mmV at h
  split at h
  · rename_i h1; omega
  · obtain ⟨c, hc, _⟩ := Option.map_eq_some_iff.1 h
    have := mV_in hc
    exact ⟨this.1, this.2.1⟩
theorem mmV_self {n : Nat} {l : List Ed} {u : Int} (h : 0 ≤ u ∧ u < n) : mmV n l u u = some (-9223372036854775808) := by
  unfold mmV
  rw [if_pos ⟨h, rfl⟩]
theorem mmV_ne {n : Nat} {l : List Ed} {u v : Int} (h : u ≠ v) : mmV n l u v = (mV n l u v).map fun c => wI l (fe n l (c - n)) := by
  unfold mmV
  rw [if_neg (fun h' => h h'.2)]
theorem mV_nat {n : Nat} {l : List Ed} {u v : Nat} (hu : u < n) (hv : v < n) (hne : u ≠ v) : mV n l u v = comV (bdL n l) (n + FN n l) u v := by
  unfold mV
  rw [if_pos (by omega)]; rfl

/-- Joined at a threshold: the labels are the same. -/
theorem mm_iff {n : Nat} {l : List Ed} (hg : GOk n l) {u v : Nat} (hu : u < n) (hv : v < n) (hne : u ≠ v) (th : Int) :
    (∃ d, mmV n l u v = some d ∧ d ≤ th) ↔ (foTo n l (cutT l th)).k.getD u 0 = (foTo n l (cutT l th)).k.getD v 0 := by
  rw [com_at hg hu hv hne th, mmV_ne (by omega), mV_nat hu hv hne]
  constructor
  · rintro ⟨d, h1, h2⟩
    obtain ⟨c, hc, rfl⟩ := Option.map_eq_some_iff.1 h1
    exact ⟨c, hc, h2⟩
  · rintro ⟨c, hc, h2⟩
    exact ⟨_, by rw [hc]; rfl, h2⟩

theorem mV_fe {n : Nat} {l : List Ed} (hg : GOk n l) {u v : Int} {c : Nat} (h : mV n l u v = some c) : n ≤ c ∧ c < n + FN n l ∧ fe n l (c - n) < l.length := by
  have hi := mV_in h
  unfold mV at h
  rw [if_pos hi] at h
  obtain ⟨h1, h2⟩ := comV_inner (bdL_tv3 hg) (by omega) (by omega) (by omega) h
  refine ⟨h1, h2, ?_⟩
  exact forL_mem (n := n) (by
    unfold fe
    have hlt : c - n < (forL n l).length := by unfold FN at h2; omega
    rw [List.getD_eq_getElem?_getD, List.getElem?_eq_getElem hlt]
    exact List.getElem_mem hlt)
theorem mmV_lo {n : Nat} {l : List Ed} (hg : GOk n l) (hw : WOk l) {u v d : Int} (h : mmV n l u v = some d) : -9223372036854775808 ≤ d ∧ d ≤ 9223372036854775807 := by
  unfold mmV at h
  split at h
  · injection h with h; omega
  · obtain ⟨c, hc, rfl⟩ := Option.map_eq_some_iff.1 h
    exact hw _ (mV_fe hg hc).2.2

theorem mm_ultra {n : Nat} {l : List Ed} (hg : GOk n l) (hw : WOk l) {a b c x y : Int} (h1 : mmV n l a b = some x) (h2 : mmV n l b c = some y) : ∃ z, mmV n l a c = some z ∧ (z ≤ x ∨ z ≤ y) := by
  obtain ⟨ha, hb⟩ := mmV_in h1
  obtain ⟨_, hc⟩ := mmV_in h2
  by_cases e1 : a = b
  · subst e1; exact ⟨y, h2, .inr (Int.le_refl _)⟩
  by_cases e2 : b = c
  · subst e2; exact ⟨x, h1, .inl (Int.le_refl _)⟩
  by_cases e3 : a = c
  · subst e3
    exact ⟨_, mmV_self ha, .inl (mmV_lo hg hw h1).1⟩
  obtain ⟨a, rfl⟩ := Int.eq_ofNat_of_zero_le ha.1
  obtain ⟨b, rfl⟩ := Int.eq_ofNat_of_zero_le hb.1
  obtain ⟨c, rfl⟩ := Int.eq_ofNat_of_zero_le hc.1
  have k1 := (mm_iff hg (u := a) (v := b) (by omega) (by omega) (by omega) (max x y)).1 ⟨x, h1, by omega⟩
  have k2 := (mm_iff hg (u := b) (v := c) (by omega) (by omega) (by omega) (max x y)).1 ⟨y, h2, by omega⟩
  obtain ⟨z, hz, hle⟩ := (mm_iff hg (u := a) (v := c) (by omega) (by omega) (by omega) (max x y)).2 (k1.trans k2)
  exact ⟨z, hz, by omega⟩

end Go.Proofs.YtenhbfbfkcjimaaDoor

/- The number of joined pairs, plain. No program in sight. -/
namespace Go.Proofs.YtenhbfbfkcjimaaDoor
set_option linter.unusedVariables false
set_option linter.unusedSimpArgs false

def sumTo (g : Nat → Nat) : Nat → Nat
  | 0 => 0
  | x + 1 => sumTo g x + g x
/-- Those before u that are as v is. -/
def inP (f : Nat → Nat) (v u : Nat) : Nat := ((List.range u).filter fun x => decide (f x = f v)).length
/-- Pairs that are alike. -/
def prT (f : Nat → Nat) : Nat → Nat
  | 0 => 0
  | v + 1 => prT f v + inP f v v
def clsN (f : Nat → Nat) (n x : Nat) : Nat := ((List.range n).filter fun v => decide (f v = x)).length

theorem inP_succ (f : Nat → Nat) (v u : Nat) : inP f v (u + 1) = inP f v u + if f u = f v then 1 else 0 := by
  unfold inP
  rw [List.range_succ, List.filter_append, List.length_append]
  congr 1
  by_cases h : f u = f v
  · simp [h]
  · simp [h]
theorem inP_le (f : Nat → Nat) (v u : Nat) : inP f v u ≤ u := by
  have := List.length_filter_le (fun x => decide (f x = f v)) (List.range u)
  rw [List.length_range] at this
  exact this
theorem prT_le (f : Nat → Nat) : ∀ n, prT f n ≤ n * n
  | 0 => Nat.le_refl _
  | n + 1 => by
    have h1 := prT_le f n
    have h2 := inP_le f n n
    show prT f n + inP f n n ≤ (n + 1) * (n + 1)
    have : (n + 1) * (n + 1) = n * n + 2 * n + 1 := by
      rw [Nat.add_mul, Nat.mul_add]; omega
    omega
theorem inP_mono {f g : Nat → Nat} {v n : Nat} (h : ∀ u, u < n → f u = f v → g u = g v) : ∀ u, u ≤ n → inP f v u ≤ inP g v u
  | 0, _ => Nat.le_refl _
  | u + 1, hu => by
    have ih := inP_mono h u (by omega)
    rw [inP_succ, inP_succ]
    by_cases e : f u = f v
    · rw [if_pos e, if_pos (h u (by omega) e)]; omega
    · rw [if_neg e]; omega
theorem prT_mono {f g : Nat → Nat} {n : Nat} (h : ∀ u v, u < v → v < n → f u = f v → g u = g v) : ∀ k, k ≤ n → prT f k ≤ prT g k
  | 0, _ => Nat.le_refl _
  | k + 1, hk => by
    have ih := prT_mono h k (by omega)
    have := inP_mono (f := f) (g := g) (v := k) (n := k) (fun u hu => h u k hu (by omega)) k (Nat.le_refl _)
    show prT f k + inP f k k ≤ prT g k + inP g k k
    omega

theorem clsN_succ (f : Nat → Nat) (n x : Nat) : clsN f (n + 1) x = clsN f n x + if f n = x then 1 else 0 := by
  unfold clsN
  rw [List.range_succ, List.filter_append, List.length_append]
  congr 1
  by_cases h : f n = x
  · simp [h]
  · simp [h]
theorem pairs2_succ (k : Nat) : pairs2 (k + 1) = pairs2 k + k := by
  unfold pairs2
  rw [Nat.add_sub_cancel]
  cases k with
  | zero => rfl
  | succ k =>
    rw [Nat.add_sub_cancel]
    have : (k + 1 + 1) * (k + 1) = (k + 1) * k + (k + 1) * 2 := by rw [← Nat.mul_add, Nat.mul_comm]
    rw [this, Nat.add_mul_div_right _ _ (by decide)]

theorem sumTo_add {g h : Nat → Nat} {p q : Nat} (hg : ∀ x, x ≠ p → g x = h x) (hp : g p = h p + q) : ∀ m, sumTo g m = sumTo h m + if p < m then q else 0
  | 0 => by simp [sumTo]
  | m + 1 => by
    have ih := sumTo_add hg hp m
    show sumTo g m + g m = sumTo h m + h m + _
    by_cases e : m = p
    · subst e
      rw [hp, ih, if_neg (by omega), if_pos (by omega)]; omega
    · rw [hg m e, ih]
      by_cases c : p < m
      · rw [if_pos c, if_pos (by omega)]; omega
      · rw [if_neg c, if_neg (by omega)]; omega

theorem sumTo_congr {g h : Nat → Nat} : ∀ m, (∀ x, x < m → g x = h x) → sumTo g m = sumTo h m
  | 0, _ => rfl
  | m + 1, e => by
    show sumTo g m + g m = sumTo h m + h m
    rw [sumTo_congr m (fun x hx => e x (by omega)), e m (by omega)]

theorem prT_sum (f : Nat → Nat) (m : Nat) : ∀ n, (∀ v, v < n → f v < m) → prT f n = sumTo (fun x => pairs2 (clsN f n x)) m
  | 0, _ => by
    show 0 = _
    have : ∀ k, sumTo (fun x => pairs2 (clsN f 0 x)) k = 0 := fun k => by
      induction k with
      | zero => rfl
      | succ k ih => show sumTo _ k + pairs2 (clsN f 0 k) = 0; rw [ih, Nat.zero_add]; unfold clsN; simp [pairs2]
    exact (this m).symm
  | n + 1, h => by
    have ih := prT_sum f m n (fun v hv => h v (by omega))
    show prT f n + inP f n n = _
    rw [ih, sumTo_add (g := fun x => pairs2 (clsN f (n + 1) x)) (h := fun x => pairs2 (clsN f n x)) (p := f n) (q := clsN f n (f n)) (fun x hx => ?_) ?_ m, if_pos (h n (by omega))]
    · rfl
    · show pairs2 (clsN f (n + 1) (f n)) = pairs2 (clsN f n (f n)) + _
      rw [clsN_succ, if_pos rfl, pairs2_succ]
    · show pairs2 (clsN f (n + 1) x) = pairs2 (clsN f n x)
      rw [clsN_succ, if_neg (fun e => hx e.symm)]; rfl

/-- Below a highest node are the leaves whose top it is. -/
theorem bl_ab {t : Tr} {n m : Nat} {ls : List Nat} (h : TV t n m ls) {th : Int} {x : Nat} (h1 : n ≤ x) (h2 : x < m) (hh : gi t.hgt x ≤ th) (ht : topB t th x = true) : ∀ v, v < m → (bl t m x v = true ↔ ab t m th v = x) := by
  refine h.down (fun v hv hp => ?_) (fun v p hv hp hvp hn e ih => ?_)
  · rw [bl_root h hv hp, ab_root h hv hp, decide_eq_true_eq]
  · rw [bl_par h hv e, ab_par h hv e, Bool.or_eq_true, decide_eq_true_eq]
    by_cases hvx : v = x
    · subst hvx
      have : ¬ gi t.hgt p ≤ th := by
        unfold topB at ht
        rw [e, Int.toNat_natCast] at ht
        simp only [Bool.or_eq_true, decide_eq_true_eq] at ht
        omega
      rw [if_neg this]; simp
    · by_cases hp2 : gi t.hgt p ≤ th
      · rw [if_pos hp2, ← ih]; simp [hvx]
      · rw [if_neg hp2]
        refine ⟨fun hb => ?_, fun hb => absurd hb hvx⟩
        rcases hb with hb | hb
        · exact absurd hb hvx
        · have hle := bl_le h p hp hb
          have := h.mono hn (x - p) (by omega)
          rw [show p + (x - p) = x by omega] at this
          omega

/-- The pairs below the highest nodes are the pairs with one top. -/
theorem cnt_pr {t : Tr} {n m : Nat} {ls : List Nat} (h : TV t n m ls) (th : Int) : cntT t n th m = prT (ab t m th) n := by
  have hnm := h.nm
  rw [prT_sum (ab t m th) m n (fun v hv => (ab_lt h th v (by omega)).1)]
  have key : ∀ k, k ≤ m → cntT t n th k = sumTo (fun x => pairs2 (clsN (ab t m th) n x)) k := by
    intro k
    induction k with
    | zero => intro _; rfl
    | succ x ih =>
      intro hk
      show cntT t n th x + _ = sumTo _ x + pairs2 (clsN (ab t m th) n x)
      rw [ih (by omega)]
      congr 1
      by_cases hc : n ≤ x ∧ gi t.hgt x ≤ th ∧ topB t th x = true
      · rw [if_pos hc, lv_size h x (by omega), Int.toNat_natCast]
        congr 1
        unfold leavesL clsN
        congr 1
        refine List.filter_congr fun v hv => ?_
        rw [List.mem_range] at hv
        have := bl_ab h hc.1 (by omega) hc.2.1 hc.2.2 v (by omega)
        by_cases e : ab t m th v = x
        · rw [this.2 e]; simp [e]
        · have hb : bl t m x v = false := by
            cases hb : bl t m x v with
            | false => rfl
            | true => exact absurd (this.1 hb) e
          rw [hb]; simp [e]
      · rw [if_neg hc]
        have hends : ∀ v, v < n → ab t m th v = x → v = x := fun v hv e => by
          obtain ⟨_, a2, a3⟩ := ab_end h th v (by omega)
          rw [e] at a2 a3
          rcases a2 with a2 | a2
          · exact a2.symm
          · refine absurd ⟨a2.1, a2.2, ?_⟩ hc
            unfold topB
            rcases a3 with a3 | ⟨p, a3, _, a4⟩
            · simp [a3]
            · rw [a3, Int.toNat_natCast]; simp [a4]
        have h1 : clsN (ab t m th) n x ≤ 1 := by
          unfold clsN
          have hs : ((List.range n).filter fun v => decide (ab t m th v = x)).length ≤ ((List.range n).filter fun v => decide (v = x)).length := by
            rw [← List.countP_eq_length_filter, ← List.countP_eq_length_filter]
            refine List.countP_mono_left fun v hv hx => ?_
            rw [decide_eq_true_eq] at hx ⊢
            exact hends v (List.mem_range.1 hv) hx
          have h2 : ((List.range n).filter fun v => decide (v = x)).length ≤ 1 := by
            rw [← List.countP_eq_length_filter]
            have : List.countP (fun v => decide (v = x)) (List.range n) = List.count x (List.range n) := by
              unfold List.count
              congr 1
            rw [this]
            exact List.nodup_iff_count.1 List.nodup_range x
          omega
        have : clsN (ab t m th) n x = 0 ∨ clsN (ab t m th) n x = 1 := by omega
        rcases this with e | e <;> rw [e] <;> rfl
  exact key m (Nat.le_refl _)

/-- One top: joined. -/
theorem ab_mm {n : Nat} {l : List Ed} (hg : GOk n l) (th : Int) {u v : Nat} (hu : u < n) (hv : v < n) (hne : u ≠ v) : ab (bdL n l) (n + FN n l) th u = ab (bdL n l) (n + FN n l) th v ↔ ∃ d, mmV n l u v = some d ∧ d ≤ th := by
  have tv := bdL_tv3 hg
  rw [mm_iff hg hu hv hne th, top_label tv th hu hv, ← labels_graph hg th]
  have e : ∀ x, x < n → (labelsL (bdL n l) n (n + FN n l) (lsB n l (FN n l)) th).getD x 0 = (lsB n l (FN n l)).getD (ab (bdL n l) (n + FN n l) th x) 0 := fun x hx => by
    unfold labelsL
    rw [List.getD_eq_getElem?_getD, List.getElem?_map, List.getElem?_range hx]; rfl
  rw [e u hu, e v hv]

theorem cnt_mono {n : Nat} {l : List Ed} (hg : GOk n l) {a b : Int} (hab : a ≤ b) : cntT (bdL n l) n a (n + FN n l) ≤ cntT (bdL n l) n b (n + FN n l) := by
  have tv := bdL_tv3 hg
  rw [cnt_pr tv, cnt_pr tv]
  refine prT_mono (n := n) (fun u v huv hv e => ?_) n (Nat.le_refl _)
  obtain ⟨d, h1, h2⟩ := (ab_mm hg a (by omega) hv (by omega)).1 e
  exact (ab_mm hg b (by omega) hv (by omega)).2 ⟨d, h1, by omega⟩

end Go.Proofs.YtenhbfbfkcjimaaDoor

/- The way in the forest and its greatest weight; the sides of a distance. No program in sight. -/
namespace Go.Proofs.YtenhbfbfkcjimaaDoor
set_option linter.unusedVariables false
set_option linter.unusedSimpArgs false

theorem out_cut {n : Nat} {l : List Ed} {th : Int} {i : Nat} (h : i ∈ (foTo n l (cutT l th)).out) : InF n l i ∧ wI l i ≤ th := by
  obtain ⟨r, hr⟩ := forL_pre (n := n) (l := l) (cutT_le l th)
  have h1 : InF n l i := by unfold InF; rw [hr]; exact List.mem_append_left _ h
  exact ⟨h1, (mem_take_cut (forL_mem h1)).1 ((fo_sub _ (cutT_le l th)).subset h)⟩

/-- No weight on the way is greater than the distance. -/
theorem path_le {n : Nat} {l : List Ed} (hg : GOk n l) {a b : Nat} {t : Int} (hm : mmV n l a b = some t) (hne : a ≠ b) {p : List Nat} (hp : PathTo n l b a p) : ∀ e ∈ p, wI l e ≤ t := by
  obtain ⟨ha, hb⟩ := mmV_in hm
  have h1 := (mm_iff hg (u := a) (v := b) (by omega) (by omega) hne t).1 ⟨t, hm, Int.le_refl _⟩
  have h2 := ((foTo_forest hg _ (cutT_le l t)).iff (by omega) (by omega)).1 h1
  exact fun e he => (out_cut (path_in hg (fun i hi => (out_cut hi).1) h2 hp e he)).2
/-- One of them is the distance. -/
theorem path_eq {n : Nat} {l : List Ed} (hg : GOk n l) {a b : Nat} {t : Int} (hm : mmV n l a b = some t) (hne : a ≠ b) {p : List Nat} (hp : PathTo n l b a p) : ∃ e ∈ p, wI l e = t := by
  obtain ⟨ha, hb⟩ := mmV_in hm
  apply Classical.byContradiction
  intro hno
  have hlt : ∀ e ∈ p, wI l e ≤ t - 1 := fun e he => by
    have h1 := path_le hg hm hne hp e he
    have h2 : wI l e ≠ t := fun e' => hno ⟨e, he, e'⟩
    omega
  have hc := hp.con (S := fun e => wI l e ≤ t - 1) hlt
  have h1 := (foTo_cut hg (t - 1)).eq_of hc
  obtain ⟨d, h2, h3⟩ := (mm_iff hg (u := a) (v := b) (by omega) (by omega) hne (t - 1)).2 h1
  rw [hm] at h2
  injection h2 with h2
  omega

/-- The greatest weight of the first i edges of the way. -/
def mxTo (l : List Ed) (p : List Nat) (i : Nat) : Int := (p.take i).foldl (fun m e => max m (wI l e)) (-9223372036854775808)
theorem mxTo_succ {l : List Ed} {p : List Nat} {i : Nat} (h : i < p.length) : mxTo l p (i + 1) = max (mxTo l p i) (wI l (p.getD i 0)) := by
  unfold mxTo
  rw [List.take_succ_eq_append_getElem h, List.foldl_append, List.getD_eq_getElem?_getD, List.getElem?_eq_getElem h]; rfl
theorem mx_all {l : List Ed} {t : Int} : ∀ (p : List Nat) (m : Int), m ≤ t → (∀ e ∈ p, wI l e ≤ t) → (m = t ∨ ∃ e ∈ p, wI l e = t) → p.foldl (fun m e => max m (wI l e)) m = t
  | [], m, _, _, h => by
    rcases h with h | ⟨e, he, _⟩
    · exact h
    · cases he
  | e :: p, m, hm, hle, h => by
    show p.foldl _ (max m (wI l e)) = t
    have h1 := hle e (List.mem_cons_self ..)
    refine mx_all p _ (by omega) (fun x hx => hle x (List.mem_cons_of_mem _ hx)) ?_
    rcases h with h | ⟨x, hx, hxt⟩
    · left; omega
    · rcases List.mem_cons.1 hx with rfl | hx
      · left; omega
      · exact .inr ⟨x, hx, hxt⟩
theorem mxw_path {n : Nat} {l : List Ed} (hg : GOk n l) (hw : WOk l) {a b : Nat} {t : Int} (hm : mmV n l a b = some t) (hne : a ≠ b) {p : List Nat} (hp : PathTo n l b a p) : mxTo l p p.length = t := by
  unfold mxTo
  rw [List.take_length]
  exact mx_all p _ (mmV_lo hg hw hm).1 (path_le hg hm hne hp) (.inr (path_eq hg hm hne hp))

/-- A step of the way. -/
theorem PathTo.next {n : Nat} {l : List Ed} {v x e : Nat} {p : List Nat} (h : PathTo n l v x (e :: p)) : ∃ y, InF n l e ∧ Arm l e x y ∧ PathTo n l v y p := by
  cases h with
  | step h1 h2 h3 h4 h5 => exact ⟨_, h1, h2, h5⟩
theorem PathTo.nil_eq {n : Nat} {l : List Ed} {v x : Nat} (h : PathTo n l v x []) : x = v := by cases h; rfl
theorem PathTo.ne_nil {n : Nat} {l : List Ed} {v x : Nat} {p : List Nat} (h : PathTo n l v x p) (hne : x ≠ v) : 0 < p.length := by
  cases p with
  | nil => exact absurd h.nil_eq hne
  | cons e p => simp

/-- Joined with u below the distance. -/
def sdB (n : Nat) (l : List Ed) (u : Nat) (t : Int) (w : Nat) : Bool := decide (w = u) || (match mmV n l u w with | some s => decide (s < t) | none => false)
theorem sdB_iff {n : Nat} {l : List Ed} {u w : Nat} {t : Int} : sdB n l u t w = true ↔ w = u ∨ ∃ s, mmV n l u w = some s ∧ s < t := by
  unfold sdB
  cases h : mmV n l u w with
  | none => simp
  | some s => simp
theorem mm_edge {n : Nat} {l : List Ed} (hg : GOk n l) {i x y : Nat} (hi : i < l.length) (ha : Arm l i x y) : ∃ d, mmV n l x y = some d ∧ d ≤ wI l i := by
  obtain ⟨h1, h2, h3⟩ := ha.ne hg hi
  refine (mm_iff hg h1 h2 h3 (wI l i)).2 ((foTo_cut hg (wI l i)).eq_of (ha.con hi (Int.le_refl _)))
theorem sd_arm {n : Nat} {l : List Ed} (hg : GOk n l) (hw : WOk l) {u x y i : Nat} {t : Int} (hi : i < l.length) (ha : Arm l i x y) (hlt : wI l i < t) (h : sdB n l u t x = true) : sdB n l u t y = true := by
  obtain ⟨d, h1, h2⟩ := mm_edge hg hi ha
  rcases sdB_iff.1 h with rfl | ⟨s, h3, h4⟩
  · exact sdB_iff.2 (.inr ⟨d, h1, by omega⟩)
  · obtain ⟨z, hz, hle⟩ := mm_ultra hg hw h3 h1
    exact sdB_iff.2 (.inr ⟨z, hz, by omega⟩)
theorem sd_edge {n : Nat} {l : List Ed} (hg : GOk n l) (hw : WOk l) {u i : Nat} {t : Int} (hi : i < l.length) (hlt : wI l i < t) : sdB n l u t (uN l i) = sdB n l u t (vN l i) := by
  have a1 : Arm l i (uN l i) (vN l i) := .inl ⟨rfl, rfl⟩
  have h1 := sd_arm hg hw (u := u) (t := t) hi a1 hlt
  have h2 := sd_arm hg hw (u := u) (t := t) hi a1.symm hlt
  cases e1 : sdB n l u t (uN l i) with
  | true => exact (h1 e1).symm
  | false =>
    cases e2 : sdB n l u t (vN l i) with
    | false => rfl
    | true => rw [h2 e2] at e1; cases e1
theorem sd_self (n : Nat) (l : List Ed) (u : Nat) (t : Int) : sdB n l u t u = true := sdB_iff.2 (.inl rfl)
theorem sd_other {n : Nat} {l : List Ed} {u v : Nat} {t : Int} (h : mmV n l u v = some t) (hne : u ≠ v) : sdB n l u t v = false := by
  cases e : sdB n l u t v with
  | false => rfl
  | true =>
    rcases sdB_iff.1 e with h1 | ⟨s, h1, h2⟩
    · exact absurd h1.symm hne
    · rw [h] at h1; injection h1 with h1; omega

/-- The sides of the first v vertices. -/
def sdL (n : Nat) (l : List Ed) (u : Nat) (t : Int) (v : Nat) : List Bool := (List.range v).map (sdB n l u t) ++ List.replicate (n - v) false
theorem sdL_len {n : Nat} {l : List Ed} {u : Nat} {t : Int} {v : Nat} (h : v ≤ n) : (sdL n l u t v).length = n := by unfold sdL; simp; omega
theorem sdL_set {n : Nat} {l : List Ed} {u : Nat} {t : Int} {v : Nat} (h : v < n) : (sdL n l u t v).set v (sdB n l u t v) = sdL n l u t (v + 1) := by
  unfold sdL
  rw [show n - v = (n - (v + 1)) + 1 by omega, List.replicate_succ, List.set_append_right _ _ (by simp), List.range_succ, List.map_append]
  simp
theorem sdL_at {n : Nat} {l : List Ed} {u : Nat} {t : Int} {x : Nat} (h : x < n) : (sdL n l u t n)[x]? = some (sdB n l u t x) := by
  unfold sdL
  rw [List.getElem?_append_left (by simpa using h), List.getElem?_map, List.getElem?_range h]; rfl

end Go.Proofs.YtenhbfbfkcjimaaDoor
