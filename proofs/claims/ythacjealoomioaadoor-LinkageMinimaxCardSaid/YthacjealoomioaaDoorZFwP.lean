/- The reference's minimax matrix: by all vertices between, one after the other. No program in sight. -/
import Derived.Test.YthacjealoomioaaDoorZMgO
import Derived.Test.YthacjealoomioaaDoorZMgR
namespace Go.Proofs.YthacjealoomioaaDoor.Lk
set_option linter.unusedVariables false
set_option linter.unusedSimpArgs false

/-- What one vertex k between makes of the entry i, j. -/
def fwV (f : Nat → Nat → Int) (k i j : Nat) : Int := if f i k < 0 ∨ f k j < 0 then f i j else if f i j < 0 ∨ max (f i k) (f k j) < f i j then max (f i k) (f k j) else f i j

def fwS (n k i j : Nat) (e : List Int) : List Int :=
  if at2 n e i k < 0 ∨ at2 n e k j < 0 then e else if at2 n e i j < 0 ∨ max (at2 n e i k) (at2 n e k j) < at2 n e i j then e.set (i * n + j) (max (at2 n e i k) (at2 n e k j)) else e
def fwJ (n k i : Nat) (d : List Int) : Nat → List Int
  | 0 => d
  | j + 1 => fwS n k i j (fwJ n k i d j)
def fwI (n k : Nat) (d : List Int) : Nat → List Int
  | 0 => d
  | i + 1 => fwJ n k i (fwI n k d i) n
def fwE (n : Nat) (l : List Ed) : Nat → List Int
  | 0 => List.replicate (n * n) (-1)
  | i + 1 => if at2 n (fwE n l i) (uN l i) (vN l i) < 0 ∨ wI l i < at2 n (fwE n l i) (uN l i) (vN l i) then ((fwE n l i).set (uN l i * n + vN l i) (wI l i)).set (vN l i * n + uN l i) (wI l i) else fwE n l i
def fwK (n : Nat) (l : List Ed) : Nat → List Int
  | 0 => fwE n l l.length
  | k + 1 => fwI n k ((fwK n l k).set (k * n + k) 0) n

theorem fwS_len (n k i j : Nat) (e : List Int) : (fwS n k i j e).length = e.length := by
  unfold fwS
  split
  · rfl
  · split
    · rw [List.length_set]
    · rfl
theorem fwJ_len (n k i : Nat) (d : List Int) : ∀ j, (fwJ n k i d j).length = d.length
  | 0 => rfl
  | j + 1 => by rw [fwJ, fwS_len, fwJ_len n k i d j]
theorem fwI_len (n k : Nat) (d : List Int) : ∀ i, (fwI n k d i).length = d.length
  | 0 => rfl
  | i + 1 => by rw [fwI, fwJ_len, fwI_len n k d i]
theorem fwE_len (n : Nat) (l : List Ed) : ∀ i, (fwE n l i).length = n * n
  | 0 => List.length_replicate
  | i + 1 => by
    rw [fwE]
    split
    · rw [List.length_set, List.length_set, fwE_len n l i]
    · exact fwE_len n l i
theorem fwK_len (n : Nat) (l : List Ed) : ∀ k, (fwK n l k).length = n * n
  | 0 => fwE_len n l _
  | k + 1 => by rw [fwK, fwI_len, List.length_set, fwK_len n l k]

theorem fwV_col {f : Nat → Nat → Int} {k : Nat} (h0 : f k k = 0) (i : Nat) : fwV f k i k = f i k := by
  unfold fwV
  rw [h0]
  split
  · rfl
  · split <;> omega
theorem fwV_row {f : Nat → Nat → Int} {k : Nat} (h0 : f k k = 0) (j : Nat) : fwV f k k j = f k j := by
  unfold fwV
  rw [h0]
  split
  · rfl
  · split <;> omega

theorem fwS_at {n : Nat} {e : List Int} (hl : e.length = n * n) {k i j : Nat} (hi : i < n) (hj : j < n) {p q : Nat} (hp : p < n) (hq : q < n) :
    at2 n (fwS n k i j e) p q = if p = i ∧ q = j then fwV (at2 n e) k i j else at2 n e p q := by
  unfold fwS fwV
  by_cases c1 : at2 n e i k < 0 ∨ at2 n e k j < 0
  · rw [if_pos c1, if_pos c1]
    split
    · rename_i h; rw [h.1, h.2]
    · rfl
  · rw [if_neg c1, if_neg c1]
    by_cases c2 : at2 n e i j < 0 ∨ max (at2 n e i k) (at2 n e k j) < at2 n e i j
    · rw [if_pos c2, if_pos c2, at2_set hl hi hj hp hq]
    · rw [if_neg c2, if_neg c2]
      split
      · rename_i h; rw [h.1, h.2]
      · rfl

theorem fwJ_at {n : Nat} {d : List Int} (hl : d.length = n * n) {k i : Nat} (hk : k < n) (hi : i < n) (h0 : at2 n d k k = 0) : ∀ j, j ≤ n → ∀ p q, p < n → q < n →
    at2 n (fwJ n k i d j) p q = if p = i ∧ q < j then fwV (at2 n d) k i q else at2 n d p q
  | 0, _, p, q, _, _ => by rw [if_neg (by omega)]; rfl
  | j + 1, hj, p, q, hp, hq => by
    have ih := fwJ_at hl hk hi h0 j (by omega)
    have hlj : (fwJ n k i d j).length = n * n := (fwJ_len n k i d j).trans hl
    rw [fwJ, fwS_at hlj hi (by omega) hp hq]
    by_cases c : p = i ∧ q = j
    · rw [if_pos c, if_pos (by omega)]
      obtain ⟨rfl, rfl⟩ := c
      have e1 : at2 n (fwJ n k p d q) p k = at2 n d p k := by
        rw [ih p k hi hk]
        split
        · exact fwV_col h0 p
        · rfl
      have e2 : at2 n (fwJ n k p d q) k q = at2 n d k q := by rw [ih k q hk hq, if_neg (by omega)]
      have e3 : at2 n (fwJ n k p d q) p q = at2 n d p q := by rw [ih p q hi hq, if_neg (by omega)]
      unfold fwV
      rw [e1, e2, e3]
    · rw [if_neg c, ih p q hp hq]
      by_cases c2 : p = i ∧ q < j
      · rw [if_pos c2, if_pos (by omega)]
      · rw [if_neg c2, if_neg (by omega)]

theorem fwI_at {n : Nat} {d : List Int} (hl : d.length = n * n) {k : Nat} (hk : k < n) (h0 : at2 n d k k = 0) : ∀ i, i ≤ n → ∀ p q, p < n → q < n →
    at2 n (fwI n k d i) p q = if p < i then fwV (at2 n d) k p q else at2 n d p q
  | 0, _, p, q, _, _ => by rw [if_neg (by omega)]; rfl
  | i + 1, hi, p, q, hp, hq => by
    have ih := fwI_at hl hk h0 i (by omega)
    have hli : (fwI n k d i).length = n * n := (fwI_len n k d i).trans hl
    have h0' : at2 n (fwI n k d i) k k = 0 := by
      rw [ih k k hk hk]
      split
      · rw [fwV_row h0, h0]
      · exact h0
    have hrow : ∀ q, q < n → at2 n (fwI n k d i) k q = at2 n d k q := fun q hq => by
      rw [ih k q hk hq]
      split
      · exact fwV_row h0 q
      · rfl
    rw [fwI, fwJ_at hli hk (by omega) h0' n (Nat.le_refl _) p q hp hq]
    by_cases c : p = i
    · subst c
      rw [if_pos ⟨rfl, hq⟩, if_pos (by omega)]
      unfold fwV
      rw [hrow q hq, ih p k hp hk, ih p q hp hq, if_neg (Nat.lt_irrefl p), if_neg (Nat.lt_irrefl p)]
    · rw [if_neg (by omega), ih p q hp hq]
      by_cases c2 : p < i
      · rw [if_pos c2, if_pos (by omega)]
      · rw [if_neg c2, if_neg (by omega)]

/-- At most th, and known. -/
def Le2 (f : Nat → Nat → Int) (th : Int) (i j : Nat) : Prop := 0 ≤ f i j ∧ f i j ≤ th

theorem fwV_le (f : Nat → Nat → Int) (k i j : Nat) (th : Int) : Le2 (fwV f k) th i j ↔ Le2 f th i j ∨ (Le2 f th i k ∧ Le2 f th k j) := by
  unfold Le2 fwV
  split
  · rename_i h; omega
  · split <;> omega

/-- The stage behind k, at a threshold. -/
def QK (n : Nat) (l : List Ed) (th : Int) (k i j : Nat) : Prop := Le2 (at2 n (fwK n l k)) th i j

theorem QK_succ {n : Nat} {l : List Ed} {th : Int} (ht : 0 ≤ th) {k i j : Nat} (hk : k < n) (hi : i < n) (hj : j < n) :
    QK n l th (k + 1) i j ↔ (QK n l th k i j ∨ (i = k ∧ j = k)) ∨ ((QK n l th k i k ∨ i = k) ∧ (QK n l th k k j ∨ j = k)) := by
  have hl := fwK_len n l k
  have hset : ∀ p q, p < n → q < n → at2 n ((fwK n l k).set (k * n + k) 0) p q = if p = k ∧ q = k then 0 else at2 n (fwK n l k) p q := fun p q hp hq => at2_set hl hk hk hp hq 0
  have h0 : at2 n ((fwK n l k).set (k * n + k) 0) k k = 0 := by rw [hset k k hk hk, if_pos ⟨rfl, rfl⟩]
  have hle : ∀ p q, p < n → q < n → (Le2 (at2 n ((fwK n l k).set (k * n + k) 0)) th p q ↔ QK n l th k p q ∨ (p = k ∧ q = k)) := fun p q hp hq => by
    unfold QK Le2
    rw [hset p q hp hq]
    split
    · rename_i h; constructor
      · intro _; exact .inr h
      · intro _; omega
    · rename_i h; constructor
      · intro h1; exact .inl h1
      · intro h1
        rcases h1 with h1 | h1
        · exact h1
        · exact absurd h1 h
  have hv : at2 n (fwK n l (k + 1)) i j = fwV (at2 n ((fwK n l k).set (k * n + k) 0)) k i j := by
    rw [fwK, fwI_at (by rw [List.length_set]; exact hl) hk h0 n (Nat.le_refl _) i j hi hj, if_pos hi]
  have : QK n l th (k + 1) i j ↔ Le2 (fwV (at2 n ((fwK n l k).set (k * n + k) 0)) k) th i j := by
    unfold QK Le2
    rw [hv]
  rw [this, fwV_le, hle i j hi hj, hle i k hi hk, hle k j hk hj]
  constructor
  · rintro (h | ⟨h1, h2⟩)
    · exact .inl h
    · refine .inr ⟨?_, ?_⟩
      · rcases h1 with h1 | h1
        · exact .inl h1
        · exact .inr h1.1
      · rcases h2 with h2 | h2
        · exact .inl h2
        · exact .inr h2.2
  · rintro (h | ⟨h1, h2⟩)
    · exact .inl h
    · rcases h1 with h1 | h1
      · rcases h2 with h2 | h2
        · exact .inr ⟨.inl h1, .inl h2⟩
        · subst h2; exact .inl (.inl h1)
      · subst h1
        rcases h2 with h2 | h2
        · exact .inl (.inl h2)
        · exact .inl (.inr ⟨rfl, h2⟩)

theorem fwE_le {n : Nat} {l : List Ed} (hg : GOk n l) (hw : ∀ i, i < l.length → 0 ≤ wI l i) : ∀ t, t ≤ l.length → ∀ (th : Int) (i j : Nat), i < n → j < n →
    (Le2 (at2 n (fwE n l t)) th i j ↔ ∃ e, e < t ∧ wI l e ≤ th ∧ Arm l e i j)
  | 0, _, th, i, j, hi, hj => by
    constructor
    · intro h
      have : at2 n (fwE n l 0) i j = -1 := by
        unfold at2
        rw [fwE, List.getD_eq_getElem?_getD, List.getElem?_replicate, if_pos (idx_lt hi hj)]; rfl
      unfold Le2 at h
      omega
    · rintro ⟨e, he, _⟩; omega
  | t + 1, ht, th, i, j, hi, hj => by
    have ih := fwE_le hg hw t (by omega) th
    have hlt := fwE_len n l t
    obtain ⟨hu, hv, huv, _⟩ := hg.uv (show t < l.length by omega)
    have hw0 := hw t (by omega)
    have hsym : ∀ i j, i < n → j < n → ∀ th, (Le2 (at2 n (fwE n l t)) th i j ↔ Le2 (at2 n (fwE n l t)) th j i) := fun i j hi hj th => by
      rw [fwE_le hg hw t (by omega) th i j hi hj, fwE_le hg hw t (by omega) th j i hj hi]
      exact ⟨fun ⟨e, h1, h2, h3⟩ => ⟨e, h1, h2, h3.symm⟩, fun ⟨e, h1, h2, h3⟩ => ⟨e, h1, h2, h3.symm⟩⟩
    have rhs : (∃ e, e < t + 1 ∧ wI l e ≤ th ∧ Arm l e i j) ↔ Le2 (at2 n (fwE n l t)) th i j ∨ (wI l t ≤ th ∧ Arm l t i j) := by
      rw [ih i j hi hj]
      constructor
      · rintro ⟨e, h1, h2, h3⟩
        by_cases c : e < t
        · exact .inl ⟨e, c, h2, h3⟩
        · obtain rfl : e = t := by omega
          exact .inr ⟨h2, h3⟩
      · rintro (⟨e, h1, h2, h3⟩ | ⟨h2, h3⟩)
        · exact ⟨e, by omega, h2, h3⟩
        · exact ⟨t, by omega, h2, h3⟩
    rw [rhs, fwE]
    by_cases c : at2 n (fwE n l t) (uN l t) (vN l t) < 0 ∨ wI l t < at2 n (fwE n l t) (uN l t) (vN l t)
    · rw [if_pos c]
      have hval : at2 n (((fwE n l t).set (uN l t * n + vN l t) (wI l t)).set (vN l t * n + uN l t) (wI l t)) i j = if (i = vN l t ∧ j = uN l t) ∨ (i = uN l t ∧ j = vN l t) then wI l t else at2 n (fwE n l t) i j := by
        rw [at2_set (by rw [List.length_set]; exact hlt) hv hu hi hj, at2_set hlt hu hv hi hj]
        by_cases c1 : i = vN l t ∧ j = uN l t
        · rw [if_pos c1, if_pos (.inl c1)]
        · rw [if_neg c1]
          by_cases c2 : i = uN l t ∧ j = vN l t
          · rw [if_pos c2, if_pos (.inr c2)]
          · rw [if_neg c2, if_neg (fun h => h.elim c1 c2)]
      have old : ∀ i j, (i = vN l t ∧ j = uN l t) ∨ (i = uN l t ∧ j = vN l t) → Le2 (at2 n (fwE n l t)) th i j → wI l t ≤ th := fun i j h hle => by
        have h1 : Le2 (at2 n (fwE n l t)) th (uN l t) (vN l t) := by
          rcases h with ⟨rfl, rfl⟩ | ⟨rfl, rfl⟩
          · exact (hsym _ _ hv hu th).1 hle
          · exact hle
        unfold Le2 at h1
        omega
      unfold Le2 at old ⊢
      rw [hval]
      by_cases c1 : (i = vN l t ∧ j = uN l t) ∨ (i = uN l t ∧ j = vN l t)
      · rw [if_pos c1]
        have harm : Arm l t i j := by
          rcases c1 with ⟨rfl, rfl⟩ | ⟨rfl, rfl⟩
          · exact .inr ⟨rfl, rfl⟩
          · exact .inl ⟨rfl, rfl⟩
        constructor
        · intro h; exact .inr ⟨h.2, harm⟩
        · rintro (h | h)
          · exact ⟨hw0, old i j c1 h⟩
          · exact ⟨hw0, h.1⟩
      · rw [if_neg c1]
        constructor
        · intro h; exact .inl h
        · rintro (h | h)
          · exact h
          · exfalso
            apply c1
            rcases h.2 with ⟨h1, h2⟩ | ⟨h1, h2⟩
            · exact .inr ⟨h1.symm, h2.symm⟩
            · exact .inl ⟨h1.symm, h2.symm⟩
    · rw [if_neg c]
      constructor
      · intro h; exact .inl h
      · rintro (h | h)
        · exact h
        · have h1 : Le2 (at2 n (fwE n l t)) th (uN l t) (vN l t) := by unfold Le2; omega
          rcases h.2 with ⟨rfl, rfl⟩ | ⟨rfl, rfl⟩
          · exact h1
          · exact (hsym _ _ hu hv th).1 h1

abbrev CT (l : List Ed) (th : Int) : Nat → Nat → Prop := EdR l fun e => wI l e ≤ th

theorem QK_sound {n : Nat} {l : List Ed} (hg : GOk n l) (hw : ∀ i, i < l.length → 0 ≤ wI l i) {th : Int} (ht : 0 ≤ th) : ∀ k, k ≤ n → ∀ i j, i < n → j < n → QK n l th k i j → Con (CT l th) i j
  | 0, _, i, j, hi, hj, h => by
    obtain ⟨e, h1, h2, h3⟩ := (fwE_le hg hw l.length (Nat.le_refl _) th i j hi hj).1 h
    exact h3.con h1 h2
  | k + 1, hk, i, j, hi, hj, h => by
    have ih := QK_sound hg hw ht k (by omega)
    rcases (QK_succ ht (by omega) hi hj).1 h with (h | ⟨rfl, rfl⟩) | ⟨h1, h2⟩
    · exact ih i j hi hj h
    · exact .refl _
    · have a1 : Con (CT l th) i k := by
        rcases h1 with h1 | rfl
        · exact ih i k hi (by omega) h1
        · exact .refl _
      have a2 : Con (CT l th) k j := by
        rcases h2 with h2 | rfl
        · exact ih k j (by omega) hj h2
        · exact .refl _
      exact a1.trans a2

theorem QK_mono {n : Nat} {l : List Ed} {th : Int} (ht : 0 ≤ th) {k i j : Nat} (hi : i < n) (hj : j < n) : ∀ d, k + d ≤ n → QK n l th k i j → QK n l th (k + d) i j
  | 0, _, h => h
  | d + 1, hd, h => (QK_succ ht (show k + d < n by omega) hi hj).2 (.inl (.inl (QK_mono ht hi hj d (by omega) h)))

theorem QK_self {n : Nat} {l : List Ed} {th : Int} (ht : 0 ≤ th) {i : Nat} (hi : i < n) : QK n l th n i i := by
  have h : QK n l th (i + 1) i i := (QK_succ ht hi hi hi).2 (.inl (.inr ⟨rfl, rfl⟩))
  have := QK_mono ht hi hi (n - (i + 1)) (by omega) h
  rwa [show i + 1 + (n - (i + 1)) = n by omega] at this

theorem QK_trans {n : Nat} {l : List Ed} {th : Int} (ht : 0 ≤ th) : ∀ k, k ≤ n → ∀ m, m < k → ∀ i j, i < n → j < n → QK n l th k i m → QK n l th k m j → QK n l th k i j
  | 0, _, m, hm, _, _, _, _, _, _ => by omega
  | k + 1, hk, m, hm, i, j, hi, hj, h1, h2 => by
    have ih := QK_trans (l := l) ht k (show k ≤ n by omega)
    have h1' := (QK_succ ht (show k < n by omega) hi (show m < n by omega)).1 h1
    have h2' := (QK_succ ht (show k < n by omega) (show m < n by omega) hj).1 h2
    refine (QK_succ ht (show k < n by omega) hi hj).2 ?_
    by_cases c : m = k
    · subst c
      right
      constructor
      · rcases h1' with (h | h) | ⟨h, _⟩
        · exact .inl h
        · exact .inr h.1
        · exact h
      · rcases h2' with (h | h) | ⟨_, h⟩
        · exact .inl h
        · exact .inr h.2
        · exact h
    · have hm' : m < k := by omega
      have hmn : m < n := by omega
      have hkn : k < n := by omega
      rcases h1' with (a | a) | ⟨a1, a2⟩
      · rcases h2' with (b | b) | ⟨b1, b2⟩
        · exact .inl (.inl (ih m hm' i j hi hj a b))
        · exact absurd b.1 c
        · rcases b1 with b1 | b1
          · exact .inr ⟨.inl (ih m hm' i k hi hkn a b1), b2⟩
          · exact absurd b1 c
      · exact absurd a.2 c
      · rcases a2 with a2 | a2
        · rcases h2' with (b | b) | ⟨b1, b2⟩
          · exact .inr ⟨a1, .inl (ih m hm' k j hkn hj a2 b)⟩
          · exact absurd b.1 c
          · exact .inr ⟨a1, b2⟩
        · exact absurd a2 c

/-- In the end: connected by edges up to the threshold. -/
theorem QK_iff {n : Nat} {l : List Ed} (hg : GOk n l) (hw : ∀ i, i < l.length → 0 ≤ wI l i) {th : Int} (ht : 0 ≤ th) {i j : Nat} (hi : i < n) (hj : j < n) : QK n l th n i j ↔ Con (CT l th) i j := by
  refine ⟨QK_sound hg hw ht n (Nat.le_refl _) i j hi hj, fun h => ?_⟩
  have key : ∀ j, Con (CT l th) i j → j < n ∧ QK n l th n i j := by
    intro j h
    induction h with
    | refl => exact ⟨hi, QK_self ht hi⟩
    | step _ hr ih =>
      obtain ⟨ih1, ih2⟩ := ih
      obtain ⟨e, h1, h2, h3⟩ := EdR.arm hr
      obtain ⟨_, hz, _⟩ := h3.ne hg h1
      have h0 : QK n l th 0 _ _ := (fwE_le hg hw l.length (Nat.le_refl _) th _ _ ih1 hz).2 ⟨e, h1, h2, h3⟩
      have h0' := QK_mono ht ih1 hz n (by omega) h0
      rw [Nat.zero_add] at h0'
      exact ⟨hz, QK_trans ht n (Nat.le_refl _) _ ih1 i _ hi hz ih2 h0'⟩
  exact (key j h).2

/-- The entries of the matrix: the minimax distances. -/
theorem fw_val {n : Nat} {l : List Ed} (hg : GOk n l) (hw : ∀ i, i < l.length → 0 ≤ wI l i) {i j : Nat} (hi : i < n) (hj : j < n) (hne : i ≠ j) :
    (∀ d, mmV n l i j = some d → at2 n (fwK n l n) i j = d ∧ 0 ≤ d) ∧ (mmV n l i j = none → at2 n (fwK n l n) i j < 0) := by
  have hcon : ∀ th, Con (CT l th) i j ↔ ∃ d, mmV n l i j = some d ∧ d ≤ th := fun th => by
    rw [mm_iff hg hi hj hne th]
    exact ((foTo_cut hg th).iff hi hj).symm
  have hq : ∀ th : Int, 0 ≤ th → ((0 ≤ at2 n (fwK n l n) i j ∧ at2 n (fwK n l n) i j ≤ th) ↔ ∃ d, mmV n l i j = some d ∧ d ≤ th) := fun th ht => by
    rw [← hcon th, ← QK_iff hg hw ht hi hj]
    rfl
  have h0 : ∀ d, mmV n l i j = some d → 0 ≤ d := fun d hd => by
    apply Classical.byContradiction
    intro hc
    have h1 := (hcon d).2 ⟨d, hd, Int.le_refl _⟩
    rcases h1 with _ | ⟨_, hr⟩
    · exact hne rfl
    · obtain ⟨e, h1, h2, _⟩ := EdR.arm hr
      have := hw e h1
      omega
  refine ⟨fun d hd => ?_, fun hn => ?_⟩
  · have hd0 := h0 d hd
    obtain ⟨a1, a2⟩ := (hq d hd0).2 ⟨d, hd, Int.le_refl _⟩
    obtain ⟨d', b1, b2⟩ := (hq _ a1).1 ⟨a1, Int.le_refl _⟩
    rw [hd] at b1
    injection b1 with b1
    exact ⟨by omega, hd0⟩
  · apply Classical.byContradiction
    intro hc
    obtain ⟨d, hd, _⟩ := (hq _ (Int.not_lt.1 hc)).1 ⟨Int.not_lt.1 hc, Int.le_refl _⟩
    rw [hn] at hd; cases hd
theorem fw_diag {n : Nat} {l : List Ed} {i : Nat} (hi : i < n) : at2 n (fwK n l n) i i = 0 := by
  have := QK_self (l := l) (th := 0) (Int.le_refl _) hi
  unfold QK Le2 at this
  omega

end Go.Proofs.YthacjealoomioaaDoor.Lk
