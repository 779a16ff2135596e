/- linkage: the search finds the first of the nearest pairs. No program in sight. -/
import Derived.Test.YthacjealoomioaaZLkG
namespace Go.Proofs.Ythacjealoomioaa.Lk
set_option linter.unusedVariables false
set_option linter.unusedSimpArgs false

theorem lessB_le_trans {x s p : Int × Int} (hx : 0 < x.2) (hs : 0 < s.2) (hp : 0 < p.2) (h1 : lessB x s = true) (h2 : lessB p s = false) : lessB x p = true := by
  unfold lessB at *
  rw [decide_eq_true_eq] at h1 ⊢
  rw [decide_eq_false_iff_not, Int.not_lt] at h2
  have a1 := Int.mul_lt_mul_of_pos_right h1 hp
  have a2 := Int.mul_le_mul_of_nonneg_right h2 (Int.le_of_lt hx)
  have e1 : x.1 * s.2 * p.2 = x.1 * p.2 * s.2 := by rw [Int.mul_right_comm]
  have e2 : s.1 * x.2 * p.2 = s.1 * p.2 * x.2 := by rw [Int.mul_right_comm]
  have e3 : p.1 * s.2 * x.2 = p.1 * x.2 * s.2 := by rw [Int.mul_right_comm]
  rw [e1, e2] at a1
  rw [e3] at a2
  exact Int.lt_of_mul_lt_mul_right (Int.lt_of_lt_of_le a1 a2) (Int.le_of_lt hs)

theorem lessB_asymm {x y : Int × Int} (h : lessB x y = true) : lessB y x = false := by
  unfold lessB at *
  rw [decide_eq_true_eq] at h
  rw [decide_eq_false_iff_not]
  omega

theorem lessB_irrefl (x : Int × Int) : lessB x x = false := by
  unfold lessB
  rw [decide_eq_false_iff_not]
  omega

def Bef (p q a b : Nat) : Prop := p < a ∨ p = a ∧ q < b

/-- (a, b) is the first of the nearest pairs. -/
structure IsBest (n : Nat) (m : Int) (sz bt : List Int) (a b : Nat) : Prop where
  pl : PL n sz a b
  low : ∀ p q, PL n sz p q → lessB (distL n m sz bt p q) (distL n m sz bt a b) = false
  fst : ∀ p q, PL n sz p q → Bef p q a b → lessB (distL n m sz bt a b) (distL n m sz bt p q) = true

def bsOf (n : Nat) (m : Int) (sz bt : List Int) (a b : Nat) : Bs := ⟨a, b, (distL n m sz bt a b).1, (distL n m sz bt a b).2⟩

def StB (n : Nat) (m : Int) (sz bt : List Int) (s : Bs) (R : Nat → Nat → Prop) : Prop :=
  (s = Bs.none ∧ ∀ p q, PL n sz p q → ¬ R p q) ∨
  ∃ a b : Nat, s = bsOf n m sz bt a b ∧ PL n sz a b ∧ R a b ∧ (∀ p q, PL n sz p q → R p q → lessB (distL n m sz bt p q) (distL n m sz bt a b) = false) ∧
    ∀ p q, PL n sz p q → R p q → Bef p q a b → lessB (distL n m sz bt a b) (distL n m sz bt p q) = true

theorem StB.same {n : Nat} {m : Int} {sz bt : List Int} {s : Bs} {R R' : Nat → Nat → Prop} (h : StB n m sz bt s R) (hr : ∀ p q, PL n sz p q → (R' p q ↔ R p q)) : StB n m sz bt s R' := by
  rcases h with ⟨h1, h2⟩ | ⟨a, b, h1, h2, h3, h4, h5⟩
  · exact .inl ⟨h1, fun p q hp hh => h2 p q hp ((hr p q hp).1 hh)⟩
  · exact .inr ⟨a, b, h1, h2, (hr a b h2).2 h3, fun p q hp hh => h4 p q hp ((hr p q hp).1 hh), fun p q hp hh => h5 p q hp ((hr p q hp).1 hh)⟩

theorem StB.upd {n : Nat} {m : Int} {sz bt : List Int} {s : Bs} {R R' : Nat → Nat → Prop} (hpos : ∀ a b, PL n sz a b → 0 < (distL n m sz bt a b).2) (h : StB n m sz bt s R) {a b : Nat} (hp : PL n sz a b)
    (hr : ∀ p q, PL n sz p q → (R' p q ↔ R p q ∨ (p = a ∧ q = b))) (hb : ∀ p q, R p q → Bef p q a b) : StB n m sz bt (s.upd a b (distL n m sz bt a b)) R' := by
  unfold Bs.upd
  rcases h with ⟨h1, h2⟩ | ⟨c, d, h1, h2, h3, h4, h5⟩
  · rw [if_pos (.inl (by rw [h1]; decide))]
    refine .inr ⟨a, b, rfl, hp, (hr a b hp).2 (.inr ⟨rfl, rfl⟩), fun p q hpq hR => ?_, fun p q hpq hR hB => ?_⟩
    · rcases (hr p q hpq).1 hR with hh | ⟨rfl, rfl⟩
      · exact absurd hh (h2 p q hpq)
      · exact lessB_irrefl _
    · rcases (hr p q hpq).1 hR with hh | ⟨rfl, rfl⟩
      · exact absurd hh (h2 p q hpq)
      · unfold Bef at hB; omega
  · have hs : ¬ s.a < 0 := by rw [h1]; simp only [bsOf]; omega
    by_cases hl : lessB (distL n m sz bt a b) (distL n m sz bt c d) = true
    · rw [if_pos (.inr (by rw [h1]; exact hl))]
      have hall : ∀ p q, PL n sz p q → R p q → lessB (distL n m sz bt a b) (distL n m sz bt p q) = true := fun p q hpq hR =>
        lessB_le_trans (hpos a b hp) (hpos c d h2) (hpos p q hpq) hl (h4 p q hpq hR)
      refine .inr ⟨a, b, rfl, hp, (hr a b hp).2 (.inr ⟨rfl, rfl⟩), fun p q hpq hR => ?_, fun p q hpq hR hB => ?_⟩
      · rcases (hr p q hpq).1 hR with hh | ⟨rfl, rfl⟩
        · exact lessB_asymm (hall p q hpq hh)
        · exact lessB_irrefl _
      · rcases (hr p q hpq).1 hR with hh | ⟨rfl, rfl⟩
        · exact hall p q hpq hh
        · unfold Bef at hB; omega
    · rw [if_neg (by rintro (hh | hh); exact hs hh; rw [h1] at hh; exact hl hh)]
      refine .inr ⟨c, d, h1, h2, (hr c d h2).2 (.inl h3), fun p q hpq hR => ?_, fun p q hpq hR hB => ?_⟩
      · rcases (hr p q hpq).1 hR with hh | ⟨rfl, rfl⟩
        · exact h4 p q hpq hh
        · simpa using hl
      · rcases (hr p q hpq).1 hR with hh | ⟨rfl, rfl⟩
        · exact h5 p q hpq hh hB
        · have := hb c d h3
          unfold Bef at this hB
          omega

theorem bestRow_st {n : Nat} {m : Int} {sz bt : List Int} (hpos : ∀ a b, PL n sz a b → 0 < (distL n m sz bt a b).2) {a : Nat} (ha0 : sz.getD a 0 ≠ 0) {s : Bs} (h : StB n m sz bt s fun p _ => p < a) :
    ∀ b, b ≤ n → StB n m sz bt (bestRow n m sz bt s a b) fun p q => Bef p q a b
  | 0, _ => h.same fun p q _ => by unfold Bef; omega
  | b + 1, hb => by
    have ih := bestRow_st hpos ha0 h b (by omega)
    rw [bestRow]
    split
    · rename_i hh
      refine ih.upd hpos ⟨hh.1, by omega, ha0, hh.2⟩ (fun p q _ => by unfold Bef; omega) (fun p q hR => hR)
    · rename_i hh
      refine ih.same fun p q hpq => ?_
      unfold Bef
      constructor
      · rintro (h1 | ⟨h1, h2⟩)
        · exact .inl h1
        · by_cases e : q = b
          · exact absurd ⟨by have := hpq.1; omega, by rw [← e]; exact hpq.2.2.2⟩ hh
          · exact .inr ⟨h1, by omega⟩
      · rintro (h1 | ⟨h1, h2⟩)
        · exact .inl h1
        · exact .inr ⟨h1, by omega⟩

theorem bestTo_st {n : Nat} {m : Int} {sz bt : List Int} (hpos : ∀ a b, PL n sz a b → 0 < (distL n m sz bt a b).2) : ∀ a, a ≤ n → StB n m sz bt (bestTo n m sz bt a) fun p _ => p < a
  | 0, _ => .inl ⟨rfl, fun p q _ => by omega⟩
  | a + 1, ha => by
    have ih := bestTo_st hpos a (by omega)
    rw [bestTo]
    split
    · rename_i h0
      refine ih.same fun p q hpq => ?_
      have : p ≠ a := fun e => hpq.2.2.1 (by rw [e]; exact h0)
      omega
    · rename_i h0
      refine (bestRow_st hpos h0 ih n (Nat.le_refl _)).same fun p q hpq => ?_
      have := hpq.2.1
      unfold Bef
      omega

theorem best_is {n : Nat} {m : Int} {sz bt : List Int} (hpos : ∀ a b, PL n sz a b → 0 < (distL n m sz bt a b).2) {a b : Nat} (h : bestTo n m sz bt n = bsOf n m sz bt a b) : IsBest n m sz bt a b := by
  have hall : ∀ p q, PL n sz p q → p < n := fun p q hpq => by have := hpq.1; have := hpq.2.1; omega
  rcases bestTo_st hpos n (Nat.le_refl _) with ⟨h1, _⟩ | ⟨c, d, h1, h2, h3, h4, h5⟩
  · rw [h] at h1
    have := congrArg Bs.a h1
    simp only [bsOf, Bs.none] at this
    omega
  · rw [h] at h1
    have e1 := congrArg Bs.a h1
    have e2 := congrArg Bs.b h1
    simp only [bsOf] at e1 e2
    obtain rfl : a = c := by omega
    obtain rfl : b = d := by omega
    exact ⟨h2, fun p q hpq => h4 p q hpq (hall p q hpq), fun p q hpq hB => h5 p q hpq (hall p q hpq) hB⟩

theorem IsBest.unique {n : Nat} {m : Int} {sz bt : List Int} {a b c d : Nat} (h : IsBest n m sz bt a b) (k : IsBest n m sz bt c d) : a = c ∧ b = d := by
  have h1 : ¬ Bef c d a b := fun hB => by
    have := h.fst c d k.pl hB
    rw [k.low a b h.pl] at this
    cases this
  have h2 : ¬ Bef a b c d := fun hB => by
    have := k.fst a b h.pl hB
    rw [h.low c d k.pl] at this
    cases this
  unfold Bef at h1 h2
  omega

theorem LInv.pos {n : Nat} {m : Int} {d : List Int} {k : Nat} {sz bt : List Int} {cl : List (List Nat)} (hd : DOk n d) (h : LInv n m d k sz bt cl) : ∀ a b, PL n sz a b → 0 < (distL n m sz bt a b).2 := by
  intro a b hp
  exact ((h.good hd).num a b hp.1 hp.2.1 hp.2.2.1 hp.2.2.2).2.2.1

theorem LInv.bestIs {n : Nat} {m : Int} {d : List Int} {k : Nat} {sz bt : List Int} {cl : List (List Nat)} (hd : DOk n d) (h : LInv n m d k sz bt cl) (hk : k + 1 < n) :
    ∃ a b : Nat, IsBest n m sz bt a b ∧ bestTo n m sz bt n = bsOf n m sz bt a b := by
  obtain ⟨a, b, _, hs⟩ := h.best hk
  exact ⟨a, b, best_is (h.pos hd) hs, hs⟩

/-- What the search returns is decided by the order alone. -/
theorem LInv.best_of {n : Nat} {m : Int} {d : List Int} {k : Nat} {sz bt : List Int} {cl : List (List Nat)} (hd : DOk n d) (h : LInv n m d k sz bt cl) (hk : k + 1 < n) {a b : Nat} (hb : IsBest n m sz bt a b) :
    bestTo n m sz bt n = bsOf n m sz bt a b := by
  obtain ⟨c, e, h1, h2⟩ := h.bestIs hd hk
  obtain ⟨rfl, rfl⟩ := hb.unique h1
  exact h2

/-- The distance of two clusters. -/
theorem LInv.dist {n : Nat} {m : Int} {d : List Int} {k : Nat} {sz bt : List Int} {cl : List (List Nat)} (h : LInv n m d k sz bt cl) {a b : Nat} (hp : PL n sz a b) :
    distL n m sz bt a b = (gap m n d (CL cl a) (CL cl b), if m = 3 then ((CL cl a).length : Int) * ((CL cl b).length : Int) else 1) := by
  have hne := h.ne_of_PL hp
  have h1 := hp.1
  have h2 := hp.2.1
  unfold distL
  rw [h.btE a b (by omega) h2 (by omega) hne.1 hne.2, h.szE, h.szE]

theorem LInv.PL_iff {n : Nat} {m : Int} {d : List Int} {k : Nat} {sz bt : List Int} {cl : List (List Nat)} (h : LInv n m d k sz bt cl) {a b : Nat} : PL n sz a b ↔ a < b ∧ CL cl a ≠ [] ∧ CL cl b ≠ [] := by
  constructor
  · intro hp
    exact ⟨hp.1, h.ne_of_PL hp⟩
  · rintro ⟨h1, h2, h3⟩
    refine ⟨h1, by rw [← h.len]; exact CL_lt h3, ?_, ?_⟩
    · rw [h.szE]; have := List.length_pos_iff.2 h2; omega
    · rw [h.szE]; have := List.length_pos_iff.2 h3; omega

end Go.Proofs.Ythacjealoomioaa.Lk
