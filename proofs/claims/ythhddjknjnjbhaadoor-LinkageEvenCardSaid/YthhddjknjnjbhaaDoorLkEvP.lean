/- linkage: all distances equal. No program in sight. -/
import Derived.Test.YthhddjknjnjbhaaDoorLkG
namespace Go.Proofs.YthhddjknjnjbhaaDoor
set_option linter.unusedVariables false
set_option linter.unusedSimpArgs false

theorem agg_const {m v : Int} : ∀ l : List Int, l ≠ [] → (∀ x ∈ l, x = v) → agg m l = if m = 3 then v * (l.length : Int) else if m = 1 ∨ m = 2 then v else v * (l.length : Int)
  | [], h, _ => absurd rfl h
  | [x], _, h => by
    have := h x (by simp)
    subst this
    simp [agg]
  | x :: y :: l, _, h => by
    have hx : v = x := (h x (by simp)).symm
    have ih := agg_const (m := m) (y :: l) (by simp) (fun z hz => h z (by simp at hz ⊢; right; exact hz))
    subst hx
    rw [agg_cons (by simp), ih]
    unfold mixE
    have e : v * (((v :: y :: l).length : Nat) : Int) = v + v * (((y :: l).length : Nat) : Int) := by
      rw [show (((v :: y :: l).length : Nat) : Int) = 1 + (((y :: l).length : Nat) : Int) from by simp [List.length_cons]; omega, Int.mul_add, Int.mul_one]
    by_cases h1 : m = 1
    · subst h1; simp
    · by_cases h2 : m = 2
      · subst h2; simp
      · by_cases h3 : m = 3
        · subst h3; simp only [if_true]; rw [e]; simp
        · simp only [h1, h2, h3, if_false, or_self]; rw [e]

/-- The search that finds no nearer pair keeps the first one. -/
theorem bestRow_stay {n : Nat} {m : Int} {sz bt : List Int} {s : Bs} {a : Nat} (hs : ¬ s.a < 0) (h : ∀ b, a < b → b < n → 0 < sz.getD b 0 → lessB (distL n m sz bt a b) (s.n, s.d) = false) : ∀ b, b ≤ n → bestRow n m sz bt s a b = s
  | 0, _ => rfl
  | b + 1, hb => by
    rw [bestRow, bestRow_stay hs h b (by omega)]
    split
    · rename_i hc
      unfold Bs.upd
      rw [if_neg]
      rintro (hh | hh)
      · exact hs hh
      · rw [h b hc.1 (by omega) hc.2] at hh; cases hh
    · rfl

theorem bestRow_first {n : Nat} {m : Int} {sz bt : List Int} {a b0 : Nat} (hab : a < b0) (hdead : ∀ b, a < b → b < b0 → ¬ 0 < sz.getD b 0) : bestRow n m sz bt Bs.none a b0 = Bs.none := by
  have : ∀ b, b ≤ b0 → bestRow n m sz bt Bs.none a b = Bs.none := by
    intro b
    induction b with
    | zero => intro _; rfl
    | succ b ih =>
      intro hb
      rw [bestRow, if_neg (fun hc => hdead b hc.1 (by omega) hc.2)]
      exact ih (by omega)
  exact this b0 (Nat.le_refl _)

end Go.Proofs.YthhddjknjnjbhaaDoor
