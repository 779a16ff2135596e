/- A region that draws its order: operations that read, and a chain of others (an allocation, an append, a store ..) that runs beside them, stage by stage. No program in sight. -/
import Derived.Test.YthacjealoomioaaDoorZMgD
namespace Go.Proofs.YthacjealoomioaaDoor
set_option linter.unusedVariables false
set_option linter.unusedSimpArgs false
open Go.RowKit

def chainB (l : List Oper) (n : Nat) : Bool := (List.range l.length).all fun j => decide (j < n) || (match l[j + 1]? with | none => true | some o => o.after.any fun e => Region.binds .any e && decide (e.on = j))

theorem chain_at {l : List Oper} {n : Nat} (h : chainB l n = true) {j : Nat} {o : Oper} (hj : n ≤ j) (ho : l[j + 1]? = some o) : ∃ e ∈ o.after, Region.binds .any e = true ∧ e.on = j := by
  have hl := (List.getElem?_eq_some_iff.1 ho).1
  have := List.all_eq_true.1 h j (List.mem_range.2 (by omega))
  rw [Bool.or_eq_true, decide_eq_true_eq, ho] at this
  rcases this with h | h
  · omega
  · simp only [Array.any_eq_true'] at h
    obtain ⟨e, he, h⟩ := h
    rw [Bool.and_eq_true, decide_eq_true_eq] at h
    exact ⟨e, he, h.1, h.2⟩

/-- Reads beside a chain: F says what a read leaves; St ys: the world behind the first operations of the chain, which left ys. -/
theorem wp_region_stage {P : Program} {id : Nat} {Q : Exit → Act → World → Prop} {a0 : Act} {w0 : World} {l : List Oper} (n : Nat) (hm : P.follows .mixedOrders = true) (hb : backB l.toArray = true) (hd : dstB l.toArray = true) (hch : chainB l n = true)
    (hback : (List.range l.length).all (fun i => match l[i]? with | none => true | some o => o.after.all fun e => !Region.binds .any e || decide (e.on < i)) = true)
    (F : Nat → Value → Prop) (St : List Value → World → Prop) (h0 : St [] w0.drew)
    (hread : ∀ (W : World) (ys : List Value) (i : Nat) (o : Oper) (A : Act), i < n → St ys W → (∀ j o', n ≤ j → j < n + ys.length → l[j]? = some o' → ∀ e ∈ o'.after, Region.binds .any e = true → e.on ≠ i) →
      (∀ t, noDstB l.toArray t = true → A.eval (.tmp t) = a0.eval (.tmp t)) →
      (∀ (e : Edge) (d : Tmp), e ∈ o.after → Region.binds .any e = true → (l[e.on]?).bind (fun o : Oper => o.dst) = some d → d < a0.tmps.size → F e.on (A.eval (.tmp d))) → l[i]? = some o →
      Region.wanted o (yielded l.toArray A.tmps) = true ∧ o.wp P A W (fun a' w' => ∃ v, a' = A.put o.dst v ∧ F i v ∧ w' = W) (fun _ _ _ => False))
    (htail : ∀ (W : World) (ys : List Value) (o : Oper) (A : Act), St ys W → l[n + ys.length]? = some o →
      (∀ t, noDstB l.toArray t = true → A.eval (.tmp t) = a0.eval (.tmp t)) →
      (∀ (e : Edge) (d : Tmp), e ∈ o.after → Region.binds .any e = true → (l[e.on]?).bind (fun o : Oper => o.dst) = some d → d < a0.tmps.size → (e.on < n → F e.on (A.eval (.tmp d))) ∧ ∀ q, e.on = n + q → ys[q]? = some (A.eval (.tmp d))) →
      Region.wanted o (yielded l.toArray A.tmps) = true ∧ o.wp P A W (fun a' w' => ∃ v, a' = A.put o.dst v ∧ St (ys ++ [v]) w') (fun _ _ _ => False))
    (hend : ∀ (xs : Nat → Value) (W : World), St ((List.range (l.length - n)).map fun q => xs (n + q)) W → (∀ i, i < n → i < l.length → F i (xs i)) → Q .normal (putAll l xs 0 a0) W) : (Code.region id l.toArray true).wp P Q a0 w0 := by
  have back : ∀ i o, l[i]? = some o → ∀ e ∈ o.after, Region.binds .any e = true → e.on < i := fun i o ho e he hbd => by
    have := List.all_eq_true.1 hback i (List.mem_range.2 (List.getElem?_eq_some_iff.1 ho).1)
    rw [ho] at this
    simp only [Array.all_eq_true', Bool.or_eq_true, Bool.not_eq_true', decide_eq_true_eq] at this
    rcases this e he with h | h
    · rw [hbd] at h; cases h
    · exact h
  refine wp_region_bagG hm hb hd (fun L xs W => ∃ s, n + s ≤ max n l.length ∧ (∀ j, n ≤ j → j < l.length → (L j = true ↔ j < n + s)) ∧ (∀ i, i < n → L i = true → F i (xs i)) ∧ St ((List.range s).map fun q => xs (n + q)) W ∧ (∀ j o', L j = true → l[j]? = some o' → ∀ e ∈ o'.after, Region.binds .any e = true → L e.on = true)) (fun w e => ⟨0, by omega, fun j h1 h2 => by simp; omega, (fun i _ h => by cases h), (by rw [e]; exact h0), (fun j o' h => by cases h)⟩) ?_ ?_
  · rintro L xs W i o A h1 h2 ⟨s, hs, hL, hF, hSt, hcl⟩ ho hi hdep
    have hil := (List.getElem?_eq_some_iff.1 ho).1
    have hcl' : ∀ j o', upd L i true j = true → l[j]? = some o' → ∀ e ∈ o'.after, Region.binds .any e = true → upd L i true e.on = true := fun j o' hj ho' e he hbd => by
      have hup : ∀ x, L x = true → upd L i true x = true := fun x hx => by
        by_cases e : x = i
        · rw [e, upd_same]
        · rw [upd_ne _ _ e]; exact hx
      by_cases e2 : j = i
      · subst e2
        rw [ho] at ho'
        injection ho' with ho'
        subst ho'
        exact hup _ (hdep e he hbd)
      · rw [upd_ne _ _ e2] at hj
        exact hup _ (hcl j o' hj ho' e he hbd)
    by_cases hin : i < n
    · obtain ⟨hw, hsx⟩ := hread W _ i o A hin hSt (fun j o' hj1 hj2 ho' e he hbd hei => by
          rw [List.length_map, List.length_range] at hj2
          have hjl := (List.getElem?_eq_some_iff.1 ho').1
          have := hcl j o' ((hL j hj1 hjl).2 hj2) ho' e he hbd
          rw [hei, hi] at this
          cases this) h1 (fun e d he hbd hd' hds => by
          have hlt := back i o ho e he hbd
          rw [h2 e.on d (hdep e he hbd) hd' hds]
          exact hF _ (by omega) (hdep e he hbd)) ho
      refine ⟨hw, Oper.wp_mono ?_ hsx⟩
      rintro a' w' ⟨v, e1, e2, rfl⟩
      refine ⟨v, e1, s, hs, fun j hj hjl => ?_, fun j hj hjL => ?_, ?_, hcl'⟩
      · rw [upd_ne _ _ (by omega)]
        exact hL j hj hjl
      · by_cases e : j = i
        · subst e; rw [upd_same]; exact e2
        · rw [upd_ne _ _ e] at hjL ⊢
          exact hF j hj hjL
      · have : (fun q => upd xs i v (n + q)) = fun q => xs (n + q) := by
          funext q
          exact upd_ne _ _ (by omega)
        rw [this]
        exact hSt
    · have his : i = n + s := by
        have hge : ¬ i < n + s := fun h => by
          have := (hL i (by omega) hil).2 h
          rw [hi] at this
          cases this
        apply Classical.byContradiction
        intro hne
        obtain ⟨j, rfl⟩ : ∃ j, i = j + 1 := ⟨i - 1, by omega⟩
        obtain ⟨e, he, hbd, hej⟩ := chain_at hch (j := j) (by omega) ho
        have := hdep e he hbd
        rw [hej] at this
        have := (hL j (by omega) (by omega)).1 this
        omega
      obtain ⟨hw, hsx⟩ := htail W _ o A hSt (by rw [List.length_map, List.length_range, ← his]; exact ho) h1 (fun e d he hbd hd' hds => by
        rw [h2 e.on d (hdep e he hbd) hd' hds]
        refine ⟨fun hlt => hF _ hlt (hdep e he hbd), fun q hq => ?_⟩
        have hlt := back i o ho e he hbd
        rw [List.getElem?_map, List.getElem?_range (by omega), hq]
        rfl)
      refine ⟨hw, Oper.wp_mono ?_ hsx⟩
      rintro a' w' ⟨v, e1, e2⟩
      refine ⟨v, e1, s + 1, by omega, fun j hj hjl => ?_, fun j hj hjL => ?_, ?_, hcl'⟩
      · by_cases e : j = i
        · subst e; rw [upd_same]; simp; omega
        · rw [upd_ne _ _ e, hL j hj hjl]; omega
      · rw [upd_ne _ _ (by omega)] at hjL ⊢
        exact hF j hj hjL
      · have : (List.range (s + 1)).map (fun q => upd xs i v (n + q)) = ((List.range s).map fun q => xs (n + q)) ++ [v] := by
          rw [List.range_succ, List.map_append, List.map_singleton, ← his, upd_same]
          congr 1
          refine List.map_congr_left fun q hq => ?_
          rw [List.mem_range] at hq
          exact upd_ne _ _ (by omega)
        rw [this]
        exact e2
  · rintro L xs W hall ⟨s, hs, hL, hF, hSt, hcl⟩
    refine hend xs W ?_ (fun i h1 h2 => hF i h1 (hall i h2))
    have : s = l.length - n := by
      by_cases hz : l.length ≤ n
      · omega
      · have h1 := (hL (l.length - 1) (by omega) (by omega)).1 (hall _ (by omega))
        omega
    rw [← this]
    exact hSt

end Go.Proofs.YthacjealoomioaaDoor
