/- A region that draws its order, of plain operations, inside a fence or a round of a range over a function: by the laws outside. No program in sight. -/
import Derived.Test.YthacjealoomioaaDoorZRcA
import Derived.Test.YthacjealoomioaaDoorZRange
namespace Go.Proofs.YthacjealoomioaaDoor
set_option linter.unusedVariables false
set_option linter.unusedSimpArgs false
open Go.RowKit

def plainOp (o : Oper) : Bool :=
  match o.op with
  | .nilCheck _ | .extract _ _ | .move _ | .assign _ | .pick _ _ _ | .alloc _ | .box _ _ | .build _ _ | .buildSlice _ _ _ | .load _ _ | .store _ _ _ | .binOp _ _ _ _ _ | .unOp _ _ _ | .convert _ _ _ | .makeSlice _ _ _ | .slice _ _ _ _ _ | .fieldAddr _ _ _ | .field _ _ _ | .indexAddr _ _ _ | .index _ _ _ => true
  | _ => false

/-- A result that is a value, or nothing. -/
def Flow (r : Result Next) : Prop := (∃ v w, r = .ok (.value v) w) ∨ (∃ w, r = .ok .skip w) ∨ ∃ h w, r = .halt h w

theorem flow_v {P : Program} {w : World} (s : Sem Value) : Flow ((do pure (Next.value (← s)) : Sem Next).run P w) := by
  simp only [Sem.run_bind, Sem.run_pure]
  cases s.run P w with
  | ok v w' => exact .inl ⟨v, w', rfl⟩
  | halt h w' => exact .inr (.inr ⟨h, w', rfl⟩)

theorem flow_u {P : Program} {w : World} (s : Sem Unit) : Flow ((do s; pure Next.skip : Sem Next).run P w) := by
  simp only [Sem.run_bind, Sem.run_pure]
  cases s.run P w with
  | ok v w' => exact .inr (.inl ⟨w', rfl⟩)
  | halt h w' => exact .inr (.inr ⟨h, w', rfl⟩)

theorem flow_pick {P : Program} {w : World} (s : Sem Bool) (f : Bool → Value) : Flow ((do pure (Next.value (f (← s))) : Sem Next).run P w) := by
  simp only [Sem.run_bind, Sem.run_pure]
  cases s.run P w with
  | ok v w' => exact .inl ⟨_, w', rfl⟩
  | halt h w' => exact .inr (.inr ⟨h, w', rfl⟩)

theorem flow_panic {P : Program} {w : World} : Flow ((runtimePanic .nilDeref : Sem Next).run P w) := .inr (.inr ⟨_, _, rfl⟩)
theorem flow_ahead {P : Program} {w : World} (s : Sem (Option Bool)) (u : Unsupported) (v : Value) : Flow ((do
    if (← s) != some false then unsupported u
    pure (Next.value v) : Sem Next).run P w) := by
  simp only [Sem.run_bind]
  cases s.run P w with
  | ok b w' =>
    simp only [Result.andThen_ok]
    split
    · exact .inr (.inr ⟨_, _, rfl⟩)
    · exact .inl ⟨_, _, rfl⟩
  | halt h w' => exact .inr (.inr ⟨h, w', rfl⟩)
theorem flow_nil {P : Program} {w : World} (x : Value) : Flow ((execOp (fun _ => x) ⟨none, .nilCheck (.tmp 0), 0, "", #[], none⟩).run P w) := by
  unfold execOp
  simp only
  split
  · exact flow_panic
  · exact flow_panic
  · exact flow_panic
  · split
    · exact flow_panic
    · rw [Sem.run_bind]
      generalize Sem.run P program w = r
      cases r with
      | ok p w1 =>
        rw [Result.andThen_ok]
        exact flow_ahead (nilAhead _ _ _ _) _ _
      | halt h w' => exact .inr (.inr ⟨h, w', rfl⟩)
    · exact .inl ⟨_, _, rfl⟩
  · exact .inl ⟨_, _, rfl⟩

theorem plain_flow {P : Program} {w : World} {o : Oper} (h : plainOp o = true) (ρ : Operand → Value) : Flow ((execOp ρ o).run P w) := by
  unfold plainOp at h
  unfold execOp
  split at h <;> rename_i hop <;> simp only [hop] <;> first
    | exact .inl ⟨_, w, rfl⟩
    | exact flow_v _
    | exact flow_u _
    | exact flow_pick _ (fun b => if b then _ else _)
    | exact flow_nil _
    | cases h

/-- Only the normal way out, and there Q. -/
def NormQ (Q : Exit → Act → World → Prop) (e : Exit) (a : Act) (w : World) : Prop := e = .normal ∧ Q .normal a w

theorem plain_about {P : Program} {w : World} {o : Oper} (hp : plainOp o = true) (ρ : Operand → Value) : o.about P w ρ = none := by
  unfold Oper.about
  cases hop : o.op <;> first | rfl | (unfold plainOp at hp; rw [hop] at hp; cases hp)

theorem wpOpIn_plain {F : Fence} {n : Nat} {P : Program} {ops : Array Oper} {Q : Exit → Act → World → Prop} {i : Nat} {K K' : Act → World → Prop} {a : Act} {w : World} (hpl : ∀ o, ops[i]? = some o → plainOp o = true)
    (hK : ∀ a w, K a w → K' a w) (h : wpOp P ops (NormQ Q) i K a w) : wpOpIn F n P ops Q i K' a w := by
  unfold wpOp at h
  unfold wpOpIn
  cases ho : ops[i]? with
  | none => simp only [ho] at h ⊢; exact hK _ _ h
  | some o =>
    simp only [ho] at h ⊢
    have hp := hpl o ho
    have hab : ∀ f, o.about P w a.eval = some f → F.fn f := fun f hf => by rw [plain_about hp] at hf; cases hf
    by_cases hw : Region.wanted o (yielded ops a.tmps) = true
    · rw [if_pos hw] at h ⊢
      rcases h with h | ⟨_, a', w', h, _⟩
      · refine ⟨hab, ?_⟩
        rw [Oper.semAt_plain F _ _ (fun c e => by unfold plainOp at hp; rw [e] at hp; cases hp)]
        unfold Oper.wp at h
        rcases plain_flow (P := P) (w := w) hp a.eval with ⟨v, w', e⟩ | ⟨w', e⟩ | ⟨hh, w', e⟩
        · rw [e] at h ⊢; exact hK _ _ h
        · rw [e] at h ⊢; exact hK _ _ h
        · rw [e] at h
          exfalso
          cases hh <;> first | exact h | (have := h.1; cases this)
      · cases h
    · rw [if_neg hw] at h ⊢
      exact ⟨hab, hK _ _ h⟩

theorem wpAnyIn_plain {F : Fence} {n : Nat} {P : Program} {md : Region.Mode} {ops : Array Oper} {Q : Exit → Act → World → Prop} (hpl : ∀ (i : Nat) (o : Oper), ops[i]? = some o → plainOp o = true) :
    ∀ (fuel : Nat) (listed : Array Bool) (a : Act) (w : World), wpAny P md ops (NormQ Q) fuel listed a w → wpAnyIn F n P md ops Q fuel listed a w
  | 0, listed, a, w, h => ⟨h.1, h.2.2⟩
  | fuel + 1, listed, a, w, h => ⟨fun hr => (h.1 hr).2, fun i hi => wpOpIn_plain (hpl i) (fun a' w' => wpAnyIn_plain hpl fuel _ a' w') (h.2 i hi)⟩

def plainOps (l : List Oper) : Bool := l.all plainOp

theorem plainOps_of {l : List Oper} (h : plainOps l = true) : ∀ (i : Nat) (o : Oper), l.toArray[i]? = some o → plainOp o = true := by
  intro i o ho
  exact List.all_eq_true.1 h o (List.mem_of_getElem? (by simpa using ho))

theorem region_tailIn {F : Fence} {m : Nat} {P : Program} {id : Nat} {Q : Exit → Act → World → Prop} {a : Act} {w : World} {l : List Oper} (n : Nat) (hm : P.follows .mixedOrders = true) (hB : Region.lexTailB .any l.toArray n = true) (hpl : plainOps l = true)
    (h : ∀ w2, DrewOf w w2 → wpStill P l.toArray w2 (fun a' => wpList P l.toArray (NormQ Q) (l.drop n) a' w2) (l.take n) a) : (Code.region id l.toArray true).wpIn F m P Q a w := by
  have h := h _ rfl
  simp only [Region.lexTailB, Bool.and_eq_true, decide_eq_true_eq] at hB
  obtain ⟨⟨⟨⟨hsel, hn⟩, hs⟩, hc⟩, hlex⟩ := hB
  have hn' : n < l.length := by simpa using hn
  have htl : (l.take n).length = n := by simp; omega
  have hdl : (l.drop n).length = l.toArray.size - n := by simp
  have inv0 : HeadInv .any l.toArray n (Array.replicate l.toArray.size false) :=
    ⟨by simp, fun j oj _ hl => (by rw [getD_replicate_false] at hl; cases hl), fun t _ ht => getD_in (by simpa using ht) (getD_replicate_false _ _)⟩
  have H := wpAnyL_lex (md := .any) (g := l.toArray.size - n) hsel hs hc hn (l.take n) 0 _ a (fun j hj => by
    have hj' : j < n := by rw [htl] at hj; exact hj
    simp [hj']) (by simpa using htl) inv0 (by rw [htl]; exact hlex) h
  refine wpIn_region_any hm (wpAnyIn_plain (plainOps_of hpl) _ _ _ _ ?_)
  have := wpAny_of_head (Q' := NormQ Q) (g := l.toArray.size - n) (fun listed a' hL => by
    have := wpAny_of_seq (md := .any) (Q' := NormQ Q) (l.drop n) n listed a' w.drew (fun j => by simp [List.getElem?_drop]) (by rw [hdl]; exact hL.1) hL.2
    rwa [hdl] at this) _ _ _ H
  rw [htl, show n + (l.toArray.size - n) = l.toArray.size by omega] at this
  exact this

end Go.Proofs.YthacjealoomioaaDoor
