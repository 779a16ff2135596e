/- Several texts in one: LkP, LkQ. -/
import Derived.Test.YthacjealoomioaaZMgA
/- linkage: what the program computes, as plain functions. No program in sight. -/
namespace Go.Proofs.Ythacjealoomioaa.Lk
set_option linter.unusedVariables false
set_option linter.unusedSimpArgs false
open Go.RowKit

/-- A merge. -/
structure Mg where
  A : Int
  B : Int
  N : Int
  D : Int
  S : Int
deriving DecidableEq

def Mg.cells (m : Mg) : List Value := [.int .i64 m.A, .int .i64 m.B, .int .i64 m.N, .int .i64 m.D, .int .i64 m.S]

def I64 (x : Int) : Prop := -9223372036854775808 ≤ x ∧ x ≤ 9223372036854775807

/-- What the method makes of two values. -/
def mixV (m x y : Int) : Int := if m = 1 then min x y else if m = 2 then max x y else IntKind.i64.wrap (x + y)

def at2 (n : Nat) (d : List Int) (i j : Nat) : Int := d.getD (i * n + j) 0

/-- The diagonal and the mirrored entries, for rows before i. -/
def symTo (n : Nat) (d : List Int) : Nat → Bool
  | 0 => true
  | i + 1 => symTo n d i && decide (at2 n d i i = 0) && (List.range i).all fun j => decide (at2 n d i j = at2 n d j i)

def inLim (d : List Int) : Bool := d.all fun x => decide (0 ≤ x ∧ x ≤ 1099511627776)

/-- What Check returns. -/
def checkL (n : Int) (d : List Int) : Int :=
  if n < 0 ∨ 128 < n ∨ (d.length : Int) ≠ n * n then 2 else if symTo n.toNat d n.toNat = false then 2 else if inLim d = false then 3 else 0

/-- The distance of two clusters as numerator and denominator. -/
def distL (n : Nat) (m : Int) (sz bt : List Int) (a b : Nat) : Int × Int := (at2 n bt a b, if m = 3 then sz.getD a 0 * sz.getD b 0 else 1)

/-- What the search holds: the pair (or -1) and its distance. -/
structure Bs where
  a : Int
  b : Int
  n : Int
  d : Int
deriving DecidableEq

def Bs.none : Bs := ⟨-1, -1, 0, 0⟩

def lessB (x y : Int × Int) : Bool := decide (x.1 * y.2 < y.1 * x.2)

def Bs.upd (s : Bs) (a b : Nat) (f : Int × Int) : Bs := if s.a < 0 ∨ lessB f (s.n, s.d) = true then ⟨a, b, f.1, f.2⟩ else s

/-- The pairs (a, b') for b' < b behind s. -/
def bestRow (n : Nat) (m : Int) (sz bt : List Int) (s : Bs) (a : Nat) : Nat → Bs
  | 0 => s
  | b + 1 => if a < b ∧ 0 < sz.getD b 0 then (bestRow n m sz bt s a b).upd a b (distL n m sz bt a b) else bestRow n m sz bt s a b

def bestTo (n : Nat) (m : Int) (sz bt : List Int) : Nat → Bs
  | 0 => Bs.none
  | a + 1 => if sz.getD a 0 = 0 then bestTo n m sz bt a else bestRow n m sz bt (bestTo n m sz bt a) a n

theorem bestRow_start (n : Nat) (m : Int) (sz bt : List Int) (s : Bs) (a : Nat) : ∀ b, b ≤ a + 1 → bestRow n m sz bt s a b = s
  | 0, _ => rfl
  | b + 1, h => by
    rw [bestRow, if_neg (by omega)]
    exact bestRow_start n m sz bt s a b (by omega)

/-- The matrix after the columns before x were mixed. -/
def mixTo (n : Nat) (m : Int) (sz : List Int) (a b : Nat) (bt : List Int) : Nat → List Int
  | 0 => bt
  | x + 1 =>
    let l := mixTo n m sz a b bt x
    if sz.getD x 0 = 0 ∨ x = a ∨ x = b then l
    else (l.set (a * n + x) (mixV m (at2 n l a x) (at2 n l b x))).set (x * n + a) (mixV m (at2 n l a x) (at2 n l b x))

def szU (sz : List Int) (a b : Nat) : List Int := (sz.set a (sz.getD a 0 + sz.getD b 0)).set b 0

def lowN (x y : Int) : Int := x / (Nat.gcd x.toNat y.toNat : Int)
def lowD (x y : Int) : Int := y / (Nat.gcd x.toNat y.toNat : Int)

def mgOf (sz : List Int) (s : Bs) : Mg := ⟨s.a, s.b, lowN s.n s.d, lowD s.n s.d, sz.getD s.a.toNat 0 + sz.getD s.b.toNat 0⟩

structure Rs where
  sz : List Int
  bt : List Int
  ms : List Mg

def onesTo (n : Nat) : List Int := List.replicate n 1 ++ List.replicate (128 - n) 0

/-- After k rounds. -/
def runS (n : Nat) (m : Int) (d : List Int) : Nat → Rs
  | 0 => ⟨onesTo n, d, []⟩
  | k + 1 =>
    let r := runS n m d k
    let s := bestTo n m r.sz r.bt n
    ⟨szU r.sz s.a.toNat s.b.toNat, mixTo n m r.sz s.a.toNat s.b.toNat r.bt n, r.ms ++ [mgOf r.sz s]⟩

def runL (n : Nat) (m : Int) (d : List Int) : List Mg := (runS n m d (n - 1)).ms

example : runL 4 3 [0, 2, 6, 10, 2, 0, 5, 9, 6, 5, 0, 4, 10, 9, 4, 0] = [⟨0, 1, 2, 1, 2⟩, ⟨2, 3, 4, 1, 2⟩, ⟨0, 2, 15, 2, 4⟩] := by decide +kernel

end Go.Proofs.Ythacjealoomioaa.Lk

/- linkage: the plain laws under its rounds. No program in sight. -/
namespace Go.Proofs.Ythacjealoomioaa.Lk
set_option linter.unusedVariables false
set_option linter.unusedSimpArgs false

theorem idx_lt {n i j : Nat} (hi : i < n) (hj : j < n) : i * n + j < n * n :=
  calc i * n + j < i * n + n := by omega
    _ = (i + 1) * n := by rw [Nat.succ_mul]
    _ ≤ n * n := Nat.mul_le_mul_right n hi

theorem idx_inj {n i j p q : Nat} (hj : j < n) (hq : q < n) (h : i * n + j = p * n + q) : i = p ∧ j = q := by
  have hn : 0 < n := by omega
  have h1 : (j + i * n) / n = j / n + i := Nat.add_mul_div_right _ _ hn
  have h2 : (q + p * n) / n = q / n + p := Nat.add_mul_div_right _ _ hn
  rw [Nat.div_eq_of_lt hj] at h1
  rw [Nat.div_eq_of_lt hq] at h2
  have : j + i * n = q + p * n := by omega
  rw [this] at h1
  have hip : i = p := by omega
  subst hip
  exact ⟨rfl, by omega⟩

theorem at2_set {n : Nat} {l : List Int} (hl : l.length = n * n) {i j p q : Nat} (hi : i < n) (hj : j < n) (hp : p < n) (hq : q < n) (v : Int) :
    at2 n (l.set (i * n + j) v) p q = if p = i ∧ q = j then v else at2 n l p q := by
  have h1 := idx_lt hi hj
  unfold at2
  by_cases e : p = i ∧ q = j
  · obtain ⟨rfl, rfl⟩ := e
    rw [if_pos ⟨rfl, rfl⟩, List.getD_eq_getElem?_getD, List.getElem?_set_self (by omega)]
    rfl
  · rw [if_neg e, List.getD_eq_getElem?_getD, List.getD_eq_getElem?_getD, List.getElem?_set_ne]
    intro h
    have := idx_inj hj hq h
    exact e ⟨this.1.symm, this.2.symm⟩

theorem mixTo_length (n : Nat) (m : Int) (sz : List Int) (a b : Nat) (bt : List Int) : ∀ x, (mixTo n m sz a b bt x).length = bt.length
  | 0 => rfl
  | x + 1 => by
    simp only [mixTo]
    split
    · exact mixTo_length n m sz a b bt x
    · simp [mixTo_length n m sz a b bt x]

def okU (sz : List Int) (a b x : Nat) : Prop := ¬ (sz.getD x 0 = 0 ∨ x = a ∨ x = b)

theorem mixTo_at (n : Nat) (m : Int) (sz : List Int) (a b : Nat) (bt : List Int) (hl : bt.length = n * n) (ha : a < n) (hb : b < n) (hab : a ≠ b) : ∀ x, x ≤ n → ∀ p q, p < n → q < n →
    (p = a → q < x → okU sz a b q → at2 n (mixTo n m sz a b bt x) p q = mixV m (at2 n bt a q) (at2 n bt b q)) ∧
    (q = a → p < x → okU sz a b p → at2 n (mixTo n m sz a b bt x) p q = mixV m (at2 n bt a p) (at2 n bt b p)) ∧
    (¬ (p = a ∧ q < x ∧ okU sz a b q) → ¬ (q = a ∧ p < x ∧ okU sz a b p) → at2 n (mixTo n m sz a b bt x) p q = at2 n bt p q)
  | 0, _, p, q, hp, hq => ⟨fun _ h => by omega, fun _ h => by omega, fun _ _ => rfl⟩
  | x + 1, hx, p, q, hp, hq => by
    have ih := mixTo_at n m sz a b bt hl ha hb hab x (by omega)
    have hll := (mixTo_length n m sz a b bt x).trans hl
    by_cases hk : okU sz a b x
    · have hxa : x ≠ a := fun e => hk (.inr (.inl e))
      have hxb : x ≠ b := fun e => hk (.inr (.inr e))
      have e1 : at2 n (mixTo n m sz a b bt x) a x = at2 n bt a x := (ih a x ha (by omega)).2.2 (by omega) (fun h => hxa h.1)
      have e2 : at2 n (mixTo n m sz a b bt x) b x = at2 n bt b x := (ih b x hb (by omega)).2.2 (by omega) (fun h => hxa h.1)
      have e3 : mixTo n m sz a b bt (x + 1) = ((mixTo n m sz a b bt x).set (a * n + x) (mixV m (at2 n bt a x) (at2 n bt b x))).set (x * n + a) (mixV m (at2 n bt a x) (at2 n bt b x)) := by
        simp only [mixTo]
        rw [if_neg hk, e1, e2]
      rw [e3, at2_set (by simp [hll]) (by omega) ha hp hq, at2_set hll ha (by omega) hp hq]
      refine ⟨fun h1 h2 h3 => ?_, fun h1 h2 h3 => ?_, fun h1 h2 => ?_⟩
      · subst h1
        rw [if_neg (by omega)]
        by_cases e : q = x
        · subst e; rw [if_pos ⟨rfl, rfl⟩]
        · rw [if_neg (fun h => e h.2)]
          exact (ih p q hp hq).1 rfl (by omega) h3
      · subst h1
        by_cases e : p = x
        · subst e; rw [if_pos ⟨rfl, rfl⟩]
        · rw [if_neg (fun h => e h.1), if_neg (by omega)]
          exact (ih p q hp hq).2.1 rfl (by omega) h3
      · rw [if_neg, if_neg]
        · exact (ih p q hp hq).2.2 (fun h => h1 ⟨h.1, by omega, h.2.2⟩) (fun h => h2 ⟨h.1, by omega, h.2.2⟩)
        · rintro ⟨rfl, rfl⟩; exact h1 ⟨rfl, by omega, hk⟩
        · rintro ⟨rfl, rfl⟩; exact h2 ⟨rfl, by omega, hk⟩
    · have e3 : mixTo n m sz a b bt (x + 1) = mixTo n m sz a b bt x := by
        simp only [mixTo]
        rw [if_pos (Classical.not_not.1 hk)]
      rw [e3]
      refine ⟨fun h1 h2 h3 => (ih p q hp hq).1 h1 ?_ h3, fun h1 h2 h3 => (ih p q hp hq).2.1 h1 ?_ h3, fun h1 h2 => (ih p q hp hq).2.2 (fun h => h1 ⟨h.1, by omega, h.2.2⟩) (fun h => h2 ⟨h.1, by omega, h.2.2⟩)⟩
      · have : q ≠ x := fun e => hk (e ▸ h3)
        omega
      · have : p ≠ x := fun e => hk (e ▸ h3)
        omega

/-- Exact mixing. -/
def mixE (m x y : Int) : Int := if m = 1 then min x y else if m = 2 then max x y else x + y

theorem mixE_comm (m x y : Int) : mixE m x y = mixE m y x := by unfold mixE; repeat' split; all_goals omega
theorem mixE_assoc (m x y z : Int) : mixE m (mixE m x y) z = mixE m x (mixE m y z) := by unfold mixE; repeat' split; all_goals omega

def agg (m : Int) : List Int → Int
  | [] => 0
  | [x] => x
  | x :: y :: l => mixE m x (agg m (y :: l))

theorem agg_cons {m x : Int} {l : List Int} (h : l ≠ []) : agg m (x :: l) = mixE m x (agg m l) := by
  cases l with
  | nil => exact absurd rfl h
  | cons y l => rfl

theorem agg_append {m : Int} {l1 l2 : List Int} (h1 : l1 ≠ []) (h2 : l2 ≠ []) : agg m (l1 ++ l2) = mixE m (agg m l1) (agg m l2) := by
  induction l1 with
  | nil => exact absurd rfl h1
  | cons x l1 ih =>
    cases l1 with
    | nil => exact agg_cons h2
    | cons y l1 =>
      have := ih (by simp)
      rw [List.cons_append, agg_cons (by simp), this, agg_cons (l := y :: l1) (by simp), mixE_assoc]

theorem agg_perm {m : Int} {l1 l2 : List Int} (h : l1.Perm l2) : agg m l1 = agg m l2 := by
  induction h with
  | nil => rfl
  | @cons x l1 l2 h ih =>
    by_cases e : l1 = []
    · subst e; rw [List.nil_perm.1 h]
    · have e2 : l2 ≠ [] := fun e2 => e (by subst e2; exact List.perm_nil.1 h)
      rw [agg_cons e, agg_cons e2, ih]
  | swap x y l =>
    by_cases e : l = []
    · subst e; exact mixE_comm m y x
    · rw [agg_cons (by simp), agg_cons e, agg_cons (by simp), agg_cons e, ← mixE_assoc, ← mixE_assoc, mixE_comm m y x]
  | trans _ _ ih1 ih2 => exact ih1.trans ih2

theorem mixE_bounds {m x y M c : Int} (hM : 0 ≤ M) (h0 : 0 ≤ x) (h1 : x ≤ M) (h2 : 0 ≤ y) (h3 : y ≤ c) (hc : 0 ≤ c) : 0 ≤ mixE m x y ∧ mixE m x y ≤ M + c := by
  unfold mixE; repeat' split
  all_goals omega

theorem agg_bounds {m M : Int} (hM : 0 ≤ M) : ∀ l : List Int, (∀ x ∈ l, 0 ≤ x ∧ x ≤ M) → 0 ≤ agg m l ∧ agg m l ≤ M * (l.length : Int)
  | [], _ => by simp [agg]
  | [x], h => by have := h x (by simp); simpa [agg] using this
  | x :: y :: l, h => by
    have h1 := h x (by simp)
    have h2 := agg_bounds (m := m) hM (y :: l) (fun z hz => h z (by simp at hz ⊢; right; exact hz))
    have h3 : 0 ≤ M * (((y :: l).length : Nat) : Int) := Int.mul_nonneg hM (by omega)
    have := mixE_bounds (m := m) hM h1.1 h1.2 h2.1 h2.2 h3
    rw [agg_cons (by simp)]
    refine ⟨this.1, Int.le_trans this.2 ?_⟩
    rw [show (((x :: y :: l).length : Nat) : Int) = 1 + (((y :: l).length : Nat) : Int) from by simp [List.length_cons]; omega, Int.mul_add, Int.mul_one]
    exact Int.le_refl _

/-- The distances of all pairs. -/
def cross (n : Nat) (d : List Int) (l1 l2 : List Nat) : List Int := l1.flatMap fun i => l2.map fun j => at2 n d i j

theorem cross_length (n : Nat) (d : List Int) (l1 l2 : List Nat) : (cross n d l1 l2).length = l1.length * l2.length := by
  unfold cross
  induction l1 with
  | nil => simp
  | cons i l1 ih => simp [List.flatMap_cons, ih, Nat.succ_mul]; omega

theorem cross_ne {n : Nat} {d : List Int} {l1 l2 : List Nat} (h1 : l1 ≠ []) (h2 : l2 ≠ []) : cross n d l1 l2 ≠ [] := by
  intro h
  have := cross_length n d l1 l2
  rw [h] at this
  have h3 : 0 < l1.length := List.length_pos_iff.2 h1
  have h4 : 0 < l2.length := List.length_pos_iff.2 h2
  have := Nat.mul_pos h3 h4
  simp at *
  omega

theorem cross_append (n : Nat) (d : List Int) (l1 l2 l3 : List Nat) : cross n d (l1 ++ l2) l3 = cross n d l1 l3 ++ cross n d l2 l3 := by
  simp [cross, List.flatMap_append]

theorem flatMap_cons_perm {α β : Type} (f : α → β) (g : α → List β) : ∀ l : List α, (l.flatMap fun j => f j :: g j).Perm (l.map f ++ l.flatMap g)
  | [] => by simp
  | x :: l => by
    simp only [List.flatMap_cons, List.map_cons, List.cons_append]
    refine List.Perm.cons _ ?_
    refine ((flatMap_cons_perm f g l).append_left (g x)).trans ?_
    rw [← List.append_assoc, ← List.append_assoc]
    exact List.Perm.append_right _ List.perm_append_comm

theorem cross_comm {n : Nat} {d : List Int} {l1 l2 : List Nat} (hs : ∀ i ∈ l1, ∀ j ∈ l2, at2 n d i j = at2 n d j i) : (cross n d l1 l2).Perm (cross n d l2 l1) := by
  induction l1 with
  | nil => simp [cross]
  | cons i l1 ih =>
    have e : cross n d l2 (i :: l1) = l2.flatMap fun j => at2 n d j i :: l1.map fun i => at2 n d j i := by simp [cross]
    rw [e]
    refine List.Perm.trans ?_ (flatMap_cons_perm _ _ _).symm
    have e2 : cross n d (i :: l1) l2 = (l2.map fun j => at2 n d i j) ++ cross n d l1 l2 := by simp [cross, List.flatMap_cons]
    rw [e2]
    have e3 : (l2.map fun j => at2 n d i j) = l2.map fun j => at2 n d j i := List.map_congr_left fun j hj => hs i (by simp) j hj
    rw [e3]
    exact List.Perm.append_left _ (ih fun i hi j hj => hs i (by simp [hi]) j hj)

/-- What the method makes of the distances between two lists of points. -/
def gap (m : Int) (n : Nat) (d : List Int) (l1 l2 : List Nat) : Int := agg m (cross n d l1 l2)

theorem gap_append {m : Int} {n : Nat} {d : List Int} {l1 l2 l3 : List Nat} (h1 : l1 ≠ []) (h2 : l2 ≠ []) (h3 : l3 ≠ []) : gap m n d (l1 ++ l2) l3 = mixE m (gap m n d l1 l3) (gap m n d l2 l3) := by
  unfold gap; rw [cross_append, agg_append (cross_ne h1 h3) (cross_ne h2 h3)]

theorem gap_comm {m : Int} {n : Nat} {d : List Int} {l1 l2 : List Nat} (hs : ∀ i ∈ l1, ∀ j ∈ l2, at2 n d i j = at2 n d j i) : gap m n d l1 l2 = gap m n d l2 l1 :=
  agg_perm (cross_comm hs)

theorem gap_bounds {m M : Int} {n : Nat} {d : List Int} (hM : 0 ≤ M) (hd : ∀ i j, 0 ≤ at2 n d i j ∧ at2 n d i j ≤ M) (l1 l2 : List Nat) : 0 ≤ gap m n d l1 l2 ∧ gap m n d l1 l2 ≤ M * ((l1.length * l2.length : Nat) : Int) := by
  have := agg_bounds (m := m) hM (cross n d l1 l2) (fun x hx => by
    unfold cross at hx
    obtain ⟨i, _, hx⟩ := List.mem_flatMap.1 hx
    obtain ⟨j, _, rfl⟩ := List.mem_map.1 hx
    exact hd i j)
  rw [cross_length] at this
  exact this

end Go.Proofs.Ythacjealoomioaa.Lk
