/- A region that draws its order, whose first operations only read: these by the quick walk for great frames. No program in sight. -/
import Derived.Test.YtenhbfbfkcjimaaDoorZRcA
import Derived.BigQuiet
namespace Go.Proofs.YtenhbfbfkcjimaaDoor
set_option linter.unusedVariables false
set_option linter.unusedSimpArgs false
open Go.RowKit

/-- Operations that call nothing. -/
def plainQ : Op → Bool
  | .move _ => true
  | .assign _ => true
  | .pick _ _ _ => true
  | .load _ _ => true
  | .binOp _ _ _ _ _ => true
  | .fieldAddr _ _ _ => true
  | .indexAddr _ _ _ => true
  | .field _ _ _ => true
  | .index _ _ _ => true
  | .build _ _ => true
  | _ => false

theorem valueQ_only {P : Program} {s : Sem Value} {w w' : World} {f : FuncId} {args : Array Value} : (do pure (Next.value (← s)) : Sem Next).run P w ≠ .ok (.enter f args) w' := by
  rw [Sem.run_bind]
  cases s.run P w <;> simp [Result.andThen]

theorem boolQ_only {P : Program} {s : Sem Bool} {x y : Value} {w w' : World} {f : FuncId} {args : Array Value} : (do pure (Next.value (if ← s then x else y)) : Sem Next).run P w ≠ .ok (.enter f args) w' := by
  rw [Sem.run_bind]
  cases s.run P w <;> simp [Result.andThen]

theorem plainQ_no {P : Program} {o : Oper} (h : plainQ o.op = true) (ρ : Operand → Value) (w w' : World) (f : FuncId) (args : Array Value) : (execOp ρ o).run P w ≠ .ok (.enter f args) w' := by
  unfold execOp
  cases e : o.op <;> rw [e] at h <;> first | (cases h; done) | exact valueQ_only | exact boolQ_only | (simp; done)

theorem still_of_quiet {P : Program} {ops : Array Oper} {w : World} {C : World → Prop} {Q : Act → Prop} (hC : C w) : ∀ (l : List Oper) (a : Act), l.all (fun o => plainQ o.op) = true → wpQuiet P ops C Q l a → wpStill P ops w Q l a
  | [], a, _, h => h
  | o :: rest, a, hp, h => by
    rw [List.all_cons, Bool.and_eq_true] at hp
    unfold wpQuiet at h
    unfold wpStill
    by_cases hw : Region.wanted o (yielded ops a.tmps) = true
    · rw [if_pos hw] at h ⊢
      obtain ⟨v, hq, hk⟩ := h
      have h1 := hq w hC
      unfold Oper.quietAt at h1
      unfold Oper.still
      have hno := plainQ_no (P := P) hp.1 a.eval w
      cases e : (execOp a.eval o).run P w with
      | ok nx w1 =>
        rw [e] at h1
        cases nx with
        | value u => obtain ⟨e1, e2⟩ := h1; subst e2; exact ⟨e1, still_of_quiet hC rest _ hp.2 hk⟩
        | skip => obtain ⟨e1, e2⟩ := h1; subst e2; exact ⟨e1, still_of_quiet hC rest _ hp.2 hk⟩
        | enter f args => exact absurd e (hno w1 f args)
        | _ => exact h1.elim
      | _ => rw [e] at h1; exact h1.elim
    · rw [if_neg hw] at h ⊢
      exact still_of_quiet hC rest _ hp.2 h

theorem region_tailQ {P : Program} {id : Nat} {Q : Exit → Act → World → Prop} {a : Act} {w : World} {l : List Oper} (n : Nat) (hm : P.follows .mixedOrders = true) (hB : Region.lexTailB .any l.toArray n = true) (hp : (l.take n).all (fun o => plainQ o.op) = true)
    (h : ∀ w2, DrewOf w w2 → wpQuiet P l.toArray (fun w' => ∃ q, w' = w2.drewN q) (fun a' => wpList P l.toArray Q (l.drop n) a' w2) (l.take n) a) : (Code.region id l.toArray true).wp P Q a w :=
  region_tailD n hm hB (fun w2 hw2 => still_of_quiet (C := fun w' => ∃ q, w' = w2.drewN q) ⟨0, rfl⟩ _ _ hp (h w2 hw2))

end Go.Proofs.YtenhbfbfkcjimaaDoor
