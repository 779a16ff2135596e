/- LinkageTrees: the plain law. No program in sight. -/
import Derived.Test.YthacjealoomioaaZLkFo
import Derived.Test.YthacjealoomioaaZMgT
namespace Go.Proofs.Ythacjealoomioaa.Lk
set_option linter.unusedVariables false
set_option linter.unusedSimpArgs false

/-- The edges of the complete graph, and the greatest distance. -/
def cpRow (n : Nat) (d : List Int) (i : Nat) (l : List Ed) : Nat → List Ed
  | 0 => l
  | j + 1 => if i < j then cpRow n d i l j ++ [⟨(i : Int), (j : Int), at2 n d i j⟩] else cpRow n d i l j
def cpTo (n : Nat) (d : List Int) : Nat → List Ed
  | 0 => []
  | i + 1 => cpRow n d i (cpTo n d i) n
def cpM (n : Nat) (d : List Int) (i : Nat) (m : Int) : Nat → Int
  | 0 => m
  | j + 1 => if i < j then max (cpM n d i m j) (at2 n d i j) else cpM n d i m j
def cpMT (n : Nat) (d : List Int) : Nat → Int
  | 0 => 0
  | i + 1 => cpM n d i (cpMT n d i) n

theorem cpRow_start (n : Nat) (d : List Int) (i : Nat) (l : List Ed) : ∀ j, j ≤ i + 1 → cpRow n d i l j = l
  | 0, _ => rfl
  | j + 1, h => by rw [cpRow, if_neg (by omega), cpRow_start n d i l j (by omega)]
theorem cpM_start (n : Nat) (d : List Int) (i : Nat) (m : Int) : ∀ j, j ≤ i + 1 → cpM n d i m j = m
  | 0, _ => rfl
  | j + 1, h => by rw [cpM, if_neg (by omega), cpM_start n d i m j (by omega)]
theorem cpRow_len (n : Nat) (d : List Int) (i : Nat) (l : List Ed) : ∀ j, (cpRow n d i l j).length ≤ l.length + j
  | 0 => Nat.le_refl _
  | j + 1 => by
    have := cpRow_len n d i l j
    rw [cpRow]
    split
    · rw [List.length_append]; simp; omega
    · omega
theorem cpTo_len (n : Nat) (d : List Int) : ∀ i, (cpTo n d i).length ≤ i * n
  | 0 => by simp [cpTo]
  | i + 1 => by
    have := cpTo_len n d i
    have := cpRow_len n d i (cpTo n d i) n
    rw [cpTo, Nat.succ_mul]
    omega
theorem cpRow_mem (n : Nat) (d : List Int) (i : Nat) (l : List Ed) (e : Ed) : ∀ j, e ∈ cpRow n d i l j ↔ e ∈ l ∨ ∃ q : Nat, i < q ∧ q < j ∧ e = ⟨(i : Int), (q : Int), at2 n d i q⟩
  | 0 => ⟨.inl, fun h => h.elim id fun ⟨q, _, h, _⟩ => by omega⟩
  | j + 1 => by
    have ih := cpRow_mem n d i l e j
    rw [cpRow]
    split
    · rename_i hij
      rw [List.mem_append, List.mem_singleton, ih]
      constructor
      · rintro ((h | ⟨q, h1, h2, h3⟩) | h)
        · exact .inl h
        · exact .inr ⟨q, h1, by omega, h3⟩
        · exact .inr ⟨j, hij, by omega, h⟩
      · rintro (h | ⟨q, h1, h2, h3⟩)
        · exact .inl (.inl h)
        · by_cases e : q = j
          · subst e; exact .inr h3
          · exact .inl (.inr ⟨q, h1, by omega, h3⟩)
    · rename_i hij
      rw [ih]
      constructor
      · rintro (h | ⟨q, h1, h2, h3⟩)
        · exact .inl h
        · exact .inr ⟨q, h1, by omega, h3⟩
      · rintro (h | ⟨q, h1, h2, h3⟩)
        · exact .inl h
        · exact .inr ⟨q, h1, by omega, h3⟩
theorem cpTo_mem (n : Nat) (d : List Int) (e : Ed) : ∀ i, e ∈ cpTo n d i ↔ ∃ p q : Nat, p < i ∧ p < q ∧ q < n ∧ e = ⟨(p : Int), (q : Int), at2 n d p q⟩
  | 0 => ⟨fun h => (by cases h), fun ⟨p, q, h, _⟩ => (by omega)⟩
  | i + 1 => by
    rw [cpTo, cpRow_mem, cpTo_mem n d e i]
    constructor
    · rintro (⟨p, q, h1, h2, h3, h4⟩ | ⟨q, h1, h2, h3⟩)
      · exact ⟨p, q, by omega, h2, h3, h4⟩
      · exact ⟨i, q, by omega, h1, h2, h3⟩
    · rintro ⟨p, q, h1, h2, h3, h4⟩
      by_cases e : p = i
      · subst e; exact .inr ⟨q, h2, h3, h4⟩
      · exact .inl ⟨p, q, by omega, h2, h3, h4⟩
theorem cpM_le (n : Nat) (d : List Int) (i : Nat) (m : Int) : ∀ j, m ≤ cpM n d i m j ∧ ∀ q, i < q → q < j → at2 n d i q ≤ cpM n d i m j
  | 0 => ⟨Int.le_refl _, fun q _ h => by omega⟩
  | j + 1 => by
    have ⟨h1, h2⟩ := cpM_le n d i m j
    rw [cpM]
    split
    · refine ⟨by omega, fun q hq hj => ?_⟩
      by_cases e : q = j
      · subst e; omega
      · have := h2 q hq (by omega); omega
    · refine ⟨h1, fun q hq hj => h2 q hq (by omega)⟩
theorem cpMT_le (n : Nat) (d : List Int) : ∀ i p q, p < i → p < q → q < n → at2 n d p q ≤ cpMT n d i
  | i + 1, p, q, h1, h2, h3 => by
    have ⟨a, b⟩ := cpM_le n d i (cpMT n d i) n
    rw [cpMT]
    by_cases e : p = i
    · subst e; exact b q h2 h3
    · have := cpMT_le n d i p q (by omega) h2 h3; omega
theorem cpM_lim (n : Nat) (d : List Int) {M : Int} (hd : ∀ i j, at2 n d i j ≤ M) (i : Nat) {m : Int} (hm : m ≤ M) : ∀ j, cpM n d i m j ≤ M
  | 0 => hm
  | j + 1 => by
    have := cpM_lim n d hd i hm j
    have := hd i j
    rw [cpM]
    split <;> omega
theorem cpMT_lim (n : Nat) (d : List Int) {M : Int} (hM : 0 ≤ M) (hd : ∀ i j, at2 n d i j ≤ M) : ∀ i, cpMT n d i ≤ M
  | 0 => hM
  | i + 1 => cpM_lim n d hd i (cpMT_lim n d hM hd i) n
theorem cpMT_pos (n : Nat) (d : List Int) : ∀ i, 0 ≤ cpMT n d i
  | 0 => Int.le_refl _
  | i + 1 => by have := cpMT_pos n d i; have := (cpM_le n d i (cpMT n d i) n).1; rw [cpMT]; omega

theorem cp_gok {n : Nat} (hn : n ≤ 60) (d : List Int) : GOk n (cpTo n d n) := by
  have hl := cpTo_len n d n
  have : n * n ≤ 60 * 60 := Nat.mul_le_mul hn hn
  refine ⟨by omega, by omega, fun i hi => ?_⟩
  obtain ⟨p, q, h1, h2, h3, h4⟩ := (cpTo_mem n d _ n).1 (EA_mem hi)
  rw [h4]
  refine ⟨?_, ?_, ?_, ?_, ?_⟩ <;> simp only <;> omega
theorem cp_at {n : Nat} {d : List Int} {p q : Nat} (h1 : p < q) (h2 : q < n) : ∃ k, k < (cpTo n d n).length ∧ EA (cpTo n d n) k = ⟨(p : Int), (q : Int), at2 n d p q⟩ := by
  obtain ⟨k, hk⟩ := List.getElem?_of_mem ((cpTo_mem n d _ n).2 ⟨p, q, by omega, h1, h2, rfl⟩)
  refine ⟨k, (List.getElem?_eq_some_iff.1 hk).1, ?_⟩
  unfold EA
  rw [List.getD_eq_getElem?_getD, hk]; rfl
theorem cp_con {n : Nat} {d : List Int} (hd : DOk n d) (th : Int) (x y : Nat) : Con (CTh (cpTo n d n) th) x y ↔ Con (RD n d th) x y := by
  constructor
  · intro hc
    refine hc.mono fun u v hr => ?_
    obtain ⟨i, hi, hw, rfl, rfl⟩ := hr
    obtain ⟨p, q, h1, h2, h3, h4⟩ := (cpTo_mem n d _ n).1 (EA_mem hi)
    unfold uN vN
    have hw' : (EA (cpTo n d n) i).W ≤ th := hw
    rw [h4] at hw' ⊢
    simp only [Int.toNat_natCast] at hw' ⊢
    exact ⟨by omega, h3, by omega, hw'⟩
  · intro hc
    have one : ∀ u v, u < v → RD n d th u v → Con (CTh (cpTo n d n) th) u v := fun u v hlt ⟨a1, a2, a3, a4⟩ => by
      obtain ⟨k, hk, e⟩ := cp_at (d := d) hlt a2
      refine (Con.refl _).step (.inl ⟨k, hk, ?_, ?_, ?_⟩)
      · show (EA (cpTo n d n) k).W ≤ th
        rw [e]; exact a4
      · unfold uN; rw [e]; rfl
      · unfold vN; rw [e]; rfl
    have two : ∀ u v, RD n d th u v → Con (CTh (cpTo n d n) th) u v := fun u v hr => by
      have hr' := hr
      obtain ⟨a1, a2, a3, a4⟩ := hr
      by_cases e : u < v
      · exact one u v e hr'
      · exact (one v u (by omega) ⟨a2, a1, fun e => a3 e.symm, by rw [hd.sym v u a2 a1]; exact a4⟩).symm
    induction hc with
    | refl => exact .refl _
    | step _ hr ih =>
      refine ih.trans ?_
      rcases hr with hr | hr
      · exact two _ _ hr
      · exact (two _ _ hr).symm
/-- The heights of Single. -/
theorem cp_single {n : Nat} {d : List Int} (hn : 0 < n) (h6 : n ≤ 60) (hd : DOk n d) : FN n (cpTo n d n) + 1 = n ∧ (∀ i, i + 1 < n → hg n d i = wI (cpTo n d n) (fe n (cpTo n d n) i)) :=
  single_forest hd (cp_gok h6 d) hn fun th x y _ _ => cp_con hd th x y
/-- The heights of Complete. -/
theorem cp_complete {n : Nat} {d : List Int} (hd : DOk n d) {i : Nat} (hi : i + 1 < n) :
    ((runL n 2 d).getD i mg0).D = 1 ∧ ((runL n 2 d).getD i mg0).N ≤ cpMT n d n ∧ ∃ k, k < (cpTo n d n).length ∧ wI (cpTo n d n) k = ((runL n 2 d).getD i mg0).N := by
  obtain ⟨a, b, h⟩ := rd_of hd (m := 2) (.inr (.inl rfl)) hi
  have inv := runS_inv hd (m := 2) (.inr (.inl rfl)) i (by omega)
  have nd := inv.perm.nodup_iff.2 List.nodup_range
  have hden : den 2 (CL (clS n 2 d i) a) (CL (clS n 2 d i) b) = 1 := by unfold den; rw [if_neg (by decide)]
  have hm := h.mg
  rw [hden] at hm
  obtain ⟨x, hx, y, hy, e⟩ := cross_mem' (agg_mem (m := 2) (.inr rfl) _ (cross_ne (n := n) (d := d) h.na h.nb))
  have hg : gap 2 n d (CL (clS n 2 d i) a) (CL (clS n 2 d i) b) = at2 n d x y := e
  have hxn : x < n := inv.mem_lt hx
  have hyn : y < n := inv.mem_lt hy
  have hxy : x ≠ y := by
    intro e
    subst e
    have := CL_unique nd hx hy
    have := h.lt
    omega
  rw [hm, hg]
  have hgcd : ∀ g : Int, Nat.gcd g.toNat (1 : Int).toNat = 1 := fun g => Nat.gcd_one_right _
  have hN : lowN (at2 n d x y) 1 = at2 n d x y := by unfold lowN; rw [hgcd]; exact Int.ediv_one _
  have hD : lowD (at2 n d x y) 1 = 1 := by unfold lowD; rw [hgcd]; rfl
  show lowD (at2 n d x y) 1 = 1 ∧ lowN (at2 n d x y) 1 ≤ _ ∧ ∃ k, _ ∧ _ = lowN (at2 n d x y) 1
  rw [hN, hD]
  have key : ∀ p q, p < q → q < n → at2 n d p q ≤ cpMT n d n ∧ ∃ k, k < (cpTo n d n).length ∧ wI (cpTo n d n) k = at2 n d p q := fun p q h1 h2 => by
    refine ⟨cpMT_le n d n p q (by omega) h1 h2, ?_⟩
    obtain ⟨k, hk, e⟩ := cp_at (d := d) h1 h2
    exact ⟨k, hk, by unfold wI; rw [e]⟩
  by_cases hlt : x < y
  · exact ⟨rfl, key x y hlt hyn⟩
  · rw [hd.sym x y hxn hyn]
    exact ⟨rfl, key y x (by omega) hxn⟩

end Go.Proofs.Ythacjealoomioaa.Lk
