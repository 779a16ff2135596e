/- Several texts in one: BagFT, BagST, BagLT, StF. -/
import Derived.Test.YtlooaipipmiijaaGreatZX17
import Derived.Test.YtlooaipipmiijaaGreatZX20
namespace Go.Proofs.YtlooaipipmiijaaGreat.Bg
set_option linter.unusedVariables false
set_option linter.unusedSimpArgs false
open Go.RowKit
theorem wp_region_bagG {P : Program} {id : Nat} {Q : Exit → Act → World → Prop} {a0 : Act} {w0 : World} {l : List Oper} (hm : P.follows .mixedOrders = true) (hb : backB l.toArray = true) (hd : dstB l.toArray = true)
    (J : (Nat → Bool) → (Nat → Value) → World → Prop) (h0 : ∀ w, w = w0.drew → J (fun _ => false) (fun _ => undef) w)
    (hstep : ∀ (L : Nat → Bool) (xs : Nat → Value) (w : World) (i : Nat) (o : Oper) (A : Act), (∀ t, noDstB l.toArray t = true → A.eval (.tmp t) = a0.eval (.tmp t)) → (∀ (j : Nat) (d : Tmp), L j = true → (l[j]?).bind (fun o : Oper => o.dst) = some d → d < a0.tmps.size → A.eval (.tmp d) = xs j) →
      J L xs w → l[i]? = some o → L i = false → (∀ e ∈ o.after, Region.binds .any e = true → L e.on = true) → Region.wanted o (yielded l.toArray A.tmps) = true ∧ o.wp P A w (fun a' w' => ∃ v, a' = A.put o.dst v ∧ J (upd L i true) (upd xs i v) w') (fun _ _ _ => False))
    (hend : ∀ (L : Nat → Bool) (xs : Nat → Value) (w : World), (∀ i, i < l.length → L i = true) → J L xs w → Q .normal (putAll l xs 0 a0) w) : (Code.region id l.toArray true).wp P Q a0 w0 := by
  have hend : ∀ (L : Nat → Bool) (xs : Nat → Value) (w : World), (∀ i, i < l.length → L i = true) → J L xs w → Q .normal (apAll l.toArray xs a0 l.length) w := fun L xs w h1 h2 => by
    rw [apAll_put _ (Nat.le_refl _), List.take_of_length_le (Nat.le_refl _)]
    exact hend L xs w h1 h2
  refine wp_region_any hm ?_
  have key : ∀ (fuel : Nat) (L : Nat → Bool) (xs : Nat → Value) (w : World), leftN L l.length = fuel → J L xs w → wpAny P .any l.toArray Q fuel (listB L l.toArray.size) (apA l.toArray L xs a0 l.length) w := by
    intro fuel
    induction fuel with
    | zero =>
      intro L xs w hl hj
      have hall := leftN_zero _ hl
      refine ⟨?_, by rw [apA_all _ hall]; exact hend L xs w hall hj⟩
      apply Classical.byContradiction
      intro hne
      obtain ⟨i, hi⟩ := List.exists_mem_of_ne_nil _ hne
      obtain ⟨h1, h2, _⟩ := (ready_listB hb).1 hi
      rw [hall i (by simpa using h1)] at h2
      cases h2
    | succ fuel ih =>
      intro L xs w hl hj
      refine ⟨fun hr => ?_, fun i hi => ?_⟩
      · have hall := ready_all hb hr
        have hall' : ∀ i, i < l.length → L i = true := fun i hi => hall i (by simpa using hi)
        rw [apA_all _ hall']
        exact hend L xs w hall' hj
      · obtain ⟨h1, h2, h3⟩ := (ready_listB hb).1 hi
        have ho : l.toArray[i]? = some (l[i]'(by simpa using h1)) := by simp
        have ho' : l[i]? = some (l[i]'(by simpa using h1)) := by simp
        obtain ⟨hw, hs⟩ := hstep L xs w i _ (apA l.toArray L xs a0 l.length) (fun t ht => apA_eval_no ht _) (fun j d hj hjd hds => apA_eval hd hj (by simpa using hjd) hds _ (by
          obtain ⟨o, ho, _⟩ := Option.bind_eq_some_iff.1 hjd
          exact (List.getElem?_eq_some_iff.1 ho).1)) hj ho' h2 (fun e he hbd => h3 _ ho e he hbd)
        unfold wpOp
        rw [ho]
        simp only
        rw [if_pos hw]
        left
        unfold Oper.wp at hs ⊢
        generalize (execOp (apA l.toArray L xs a0 l.length).eval (l[i]'(by simpa using h1))).run P w = r at hs ⊢
        have fin : ∀ a' w', (∃ v, a' = (apA l.toArray L xs a0 l.length).put (l[i]'(by simpa using h1)).dst v ∧ J (upd L i true) (upd xs i v) w') → wpAny P .any l.toArray Q fuel ((listB L l.toArray.size).setIfInBounds i true) a' w' := by
          rintro a' w' ⟨v, rfl, hj'⟩
          rw [listB_set]
          have hp := apA_put hd (a0 := a0) h2 v (xs := xs) l.length (by simpa using h1)
          rw [ho] at hp
          simp only [Option.bind_some] at hp
          rw [← hp]
          refine ih _ _ _ ?_ hj'
          have := leftN_upd h2 l.length (by simpa using h1)
          omega
        cases r with
        | ok x w' =>
          cases x with
          | value v => exact fin _ _ hs
          | skip => exact fin _ _ hs
          | defer d => exact fin _ _ hs
          | enter f args => exact Calls.mono hs (fun e w'' he => by cases e <;> first | exact fin _ _ he | exact he.elim | (obtain ⟨_, _, h⟩ := he; exact h.elim))
          | row row args => exact Rows.mono hs (fun _ _ he => fin _ _ he)
          | _ => exact hs
        | halt x w' => cases x <;> first | exact hs | exact hs.elim
  have hs0 : leftN (fun _ => false) l.length = l.toArray.size := by
    have : ∀ n, leftN (fun _ => false) n = n := by
      intro n
      induction n with
      | zero => rfl
      | succ n ih => rw [leftN, ih]; simp
    rw [this]; simp
  have hl0 : listB (fun _ => false) l.toArray.size = Array.replicate l.toArray.size false := by
    unfold listB
    apply Array.ext (by simp)
    intro i h1 h2
    simp
  have ha0 : ∀ n, apA l.toArray (fun _ => false) (fun _ => undef) a0 n = a0 := by
    intro n
    induction n with
    | zero => rfl
    | succ n ih => rw [apA, ih]; simp
  have := key _ (fun _ => false) (fun _ => undef) w0.drew hs0 (h0 _ rfl)
  rw [hl0, ha0] at this
  exact this
theorem wanted_free {ops : Array Oper} {o : Oper} {A : Act} (hg : o.guard = none) : Region.wanted o (yielded ops A.tmps) = true := yielded_unguarded hg _
end Go.Proofs.YtlooaipipmiijaaGreat.Bg

namespace Go.Proofs.YtlooaipipmiijaaGreat.Bg
set_option linter.unusedVariables false
set_option linter.unusedSimpArgs false
open Go.RowKit
def chainB (l : List Oper) (n : Nat) : Bool := (List.range l.length).all fun j => decide (j < n) || (match l[j + 1]? with | none => true | some o => o.after.any fun e => Region.binds .any e && decide (e.on = j))
theorem chain_at {l : List Oper} {n : Nat} (h : chainB l n = true) {j : Nat} {o : Oper} (hj : n ≤ j) (ho : l[j + 1]? = some o) : ∃ e ∈ o.after, Region.binds .any e = true ∧ e.on = j := by
  have hl := (List.getElem?_eq_some_iff.1 ho).1
  have := List.all_eq_true.1 h j (List.mem_range.2 (by omega))
  rw [Bool.or_eq_true, decide_eq_true_eq, ho] at this
  rcases this with h | h
  · omega
  · simp only [Array.any_eq_true'] at h
    obtain ⟨e, he, h⟩ := h
    rw [Bool.and_eq_true, decide_eq_true_eq] at h
    exact ⟨e, he, h.1, h.2⟩
theorem wp_region_stage {P : Program} {id : Nat} {Q : Exit → Act → World → Prop} {a0 : Act} {w0 : World} {l : List Oper} (n : Nat) (hm : P.follows .mixedOrders = true) (hb : backB l.toArray = true) (hd : dstB l.toArray = true) (hch : chainB l n = true)
    (hback : (List.range l.length).all (fun i => match l[i]? with | none => true | some o => o.after.all fun e => !Region.binds .any e || decide (e.on < i)) = true)
    (F : Nat → Value → Prop) (St : List Value → World → Prop) (h0 : St [] w0.drew)
    (hread : ∀ (W : World) (ys : List Value) (i : Nat) (o : Oper) (A : Act), i < n → St ys W → (∀ j o', n ≤ j → j < n + ys.length → l[j]? = some o' → ∀ e ∈ o'.after, Region.binds .any e = true → e.on ≠ i) →
      (∀ t, noDstB l.toArray t = true → A.eval (.tmp t) = a0.eval (.tmp t)) →
      (∀ (e : Edge) (d : Tmp), e ∈ o.after → Region.binds .any e = true → (l[e.on]?).bind (fun o : Oper => o.dst) = some d → d < a0.tmps.size → F e.on (A.eval (.tmp d))) → l[i]? = some o →
      Region.wanted o (yielded l.toArray A.tmps) = true ∧ o.wp P A W (fun a' w' => ∃ v, a' = A.put o.dst v ∧ F i v ∧ w' = W) (fun _ _ _ => False))
    (htail : ∀ (W : World) (ys : List Value) (o : Oper) (A : Act), St ys W → l[n + ys.length]? = some o →
      (∀ t, noDstB l.toArray t = true → A.eval (.tmp t) = a0.eval (.tmp t)) →
      (∀ (e : Edge) (d : Tmp), e ∈ o.after → Region.binds .any e = true → (l[e.on]?).bind (fun o : Oper => o.dst) = some d → d < a0.tmps.size → (e.on < n → F e.on (A.eval (.tmp d))) ∧ ∀ q, e.on = n + q → ys[q]? = some (A.eval (.tmp d))) →
      Region.wanted o (yielded l.toArray A.tmps) = true ∧ o.wp P A W (fun a' w' => ∃ v, a' = A.put o.dst v ∧ St (ys ++ [v]) w') (fun _ _ _ => False))
    (hend : ∀ (xs : Nat → Value) (W : World), St ((List.range (l.length - n)).map fun q => xs (n + q)) W → (∀ i, i < n → i < l.length → F i (xs i)) → Q .normal (putAll l xs 0 a0) W) : (Code.region id l.toArray true).wp P Q a0 w0 := by
  have back : ∀ i o, l[i]? = some o → ∀ e ∈ o.after, Region.binds .any e = true → e.on < i := fun i o ho e he hbd => by
    have := List.all_eq_true.1 hback i (List.mem_range.2 (List.getElem?_eq_some_iff.1 ho).1)
    rw [ho] at this
    simp only [Array.all_eq_true', Bool.or_eq_true, Bool.not_eq_true', decide_eq_true_eq] at this
    rcases this e he with h | h
    · rw [hbd] at h; cases h
    · exact h
  refine wp_region_bagG hm hb hd (fun L xs W => ∃ s, n + s ≤ max n l.length ∧ (∀ j, n ≤ j → j < l.length → (L j = true ↔ j < n + s)) ∧ (∀ i, i < n → L i = true → F i (xs i)) ∧ St ((List.range s).map fun q => xs (n + q)) W ∧ (∀ j o', L j = true → l[j]? = some o' → ∀ e ∈ o'.after, Region.binds .any e = true → L e.on = true)) (fun w e => ⟨0, by omega, fun j h1 h2 => by simp; omega, (fun i _ h => by cases h), (by rw [e]; exact h0), (fun j o' h => by cases h)⟩) ?_ ?_
  · rintro L xs W i o A h1 h2 ⟨s, hs, hL, hF, hSt, hcl⟩ ho hi hdep
    have hil := (List.getElem?_eq_some_iff.1 ho).1
    have hcl' : ∀ j o', upd L i true j = true → l[j]? = some o' → ∀ e ∈ o'.after, Region.binds .any e = true → upd L i true e.on = true := fun j o' hj ho' e he hbd => by
      have hup : ∀ x, L x = true → upd L i true x = true := fun x hx => by
        by_cases e : x = i
        · rw [e, upd_same]
        · rw [upd_ne _ _ e]; exact hx
      by_cases e2 : j = i
      · subst e2
        rw [ho] at ho'
        injection ho' with ho'
        subst ho'
        exact hup _ (hdep e he hbd)
      · rw [upd_ne _ _ e2] at hj
        exact hup _ (hcl j o' hj ho' e he hbd)
    by_cases hin : i < n
    · obtain ⟨hw, hsx⟩ := hread W _ i o A hin hSt (fun j o' hj1 hj2 ho' e he hbd hei => by
          rw [List.length_map, List.length_range] at hj2
          have hjl := (List.getElem?_eq_some_iff.1 ho').1
          have := hcl j o' ((hL j hj1 hjl).2 hj2) ho' e he hbd
          rw [hei, hi] at this
          cases this) h1 (fun e d he hbd hd' hds => by
          have hlt := back i o ho e he hbd
          rw [h2 e.on d (hdep e he hbd) hd' hds]
          exact hF _ (by omega) (hdep e he hbd)) ho
      refine ⟨hw, Oper.wp_mono ?_ hsx⟩
      rintro a' w' ⟨v, e1, e2, rfl⟩
      refine ⟨v, e1, s, hs, fun j hj hjl => ?_, fun j hj hjL => ?_, ?_, hcl'⟩
      · rw [upd_ne _ _ (by omega)]
        exact hL j hj hjl
      · by_cases e : j = i
        · subst e; rw [upd_same]; exact e2
        · rw [upd_ne _ _ e] at hjL ⊢
          exact hF j hj hjL
      · have : (fun q => upd xs i v (n + q)) = fun q => xs (n + q) := by
          funext q
          exact upd_ne _ _ (by omega)
        rw [this]
        exact hSt
    · have his : i = n + s := by
        have hge : ¬ i < n + s := fun h => by
          have := (hL i (by omega) hil).2 h
          rw [hi] at this
          cases this
        apply Classical.byContradiction
        intro hne
        obtain ⟨j, rfl⟩ : ∃ j, i = j + 1 := ⟨i - 1, by omega⟩
        obtain ⟨e, he, hbd, hej⟩ := chain_at hch (j := j) (by omega) ho
        have := hdep e he hbd
        rw [hej] at this
        have := (hL j (by omega) (by omega)).1 this
        omega
      obtain ⟨hw, hsx⟩ := htail W _ o A hSt (by rw [List.length_map, List.length_range, ← his]; exact ho) h1 (fun e d he hbd hd' hds => by
        rw [h2 e.on d (hdep e he hbd) hd' hds]
        refine ⟨fun hlt => hF _ hlt (hdep e he hbd), fun q hq => ?_⟩
        have hlt := back i o ho e he hbd
        rw [List.getElem?_map, List.getElem?_range (by omega), hq]
        rfl)
      refine ⟨hw, Oper.wp_mono ?_ hsx⟩
      rintro a' w' ⟨v, e1, e2⟩
      refine ⟨v, e1, s + 1, by omega, fun j hj hjl => ?_, fun j hj hjL => ?_, ?_, hcl'⟩
      · by_cases e : j = i
        · subst e; rw [upd_same]; simp; omega
        · rw [upd_ne _ _ e, hL j hj hjl]; omega
      · rw [upd_ne _ _ (by omega)] at hjL ⊢
        exact hF j hj hjL
      · have : (List.range (s + 1)).map (fun q => upd xs i v (n + q)) = ((List.range s).map fun q => xs (n + q)) ++ [v] := by
          rw [List.range_succ, List.map_append, List.map_singleton, ← his, upd_same]
          congr 1
          refine List.map_congr_left fun q hq => ?_
          rw [List.mem_range] at hq
          exact upd_ne _ _ (by omega)
        rw [this]
        exact e2
  · rintro L xs W hall ⟨s, hs, hL, hF, hSt, hcl⟩
    refine hend xs W ?_ (fun i h1 h2 => hF i h1 (hall i h2))
    have : s = l.length - n := by
      by_cases hz : l.length ≤ n
      · omega
      · have h1 := (hL (l.length - 1) (by omega) (by omega)).1 (hall _ (by omega))
        omega
    rw [← this]
    exact hSt
end Go.Proofs.YtlooaipipmiijaaGreat.Bg

namespace Go.Proofs.YtlooaipipmiijaaGreat.Bg
set_option linter.unusedVariables false
set_option linter.unusedSimpArgs false
open Go.RowKit
theorem wp_valD {P : Program} {o : Oper} {a : Act} {w w' : World} {K : Act → World → Prop} {F : Exit → Act → World → Prop} {v : Value} (h : (execOp a.eval o).run P w = .ok (.value v) w') (hk : K (a.put o.dst v) w') : o.wp P a w K F := by
  unfold Oper.wp; rw [h]; exact hk
theorem wp_apD {P : Program} {d : Tmp} {t ty : TypeId} {s x : Operand} {pos : String} {aft : Array Edge} {gd : Option (Nat × Bool)} {a : Act} {K : Act → World → Prop} {F : Exit → Act → World → Prop} {w : World}
    (e : TypeId) (z : Value) (size bytes : Nat) (ht : P.underlying t = some (.slice e)) (hz : (P.info? e).map (fun i => (i.zero, i.size, i.bytes)) = some (some z, size, bytes))
    (hzs : z.cells.size = size) (hsz : 0 < size) (v : Value) (n : Nat) (xs : List Value) (hs : a.eval s = v) (hown : w.ownsRow 0 e size v n xs)
    (ad : Addr) (m c : Nat) (news : List Value) (hx : a.eval x = .slice (some ad) m c) (hl : news.length = m * size) (hnews : ∀ j u, news[j]? = some u → w.cell? (ad.add j) = some u) (h1 : ∀ u ∈ news, u.oneCell' = true)
    (h63 : n + m ≤ maxLen) (hbytes : (n + m) * bytes ≤ 140737488355328)
    (h : ∀ v' w', w'.ownsRow 0 e size v' (n + m) (xs ++ news) → w.grownBy w' v.ownBlock → (∀ k, v'.ownBlock = some k → v.ownBlock = some k ∨ w.heap.size ≤ k) → K (a.put (some d) v') w') :
    Oper.wp P ⟨some d, .call { callee := .builtin .append, args := #[s, x], argTypes := #[t, t] }, ty, pos, aft, gd⟩ a w K F := by
  obtain ⟨v', w', hr, h2, h3, h4⟩ := run_appendB (P := P) w t ty e z size bytes ht hz hzs hsz v n xs hown ad m c news hl hnews h1 h63 hbytes
  unfold Oper.wp execOp
  simp only [resolve, invoke, builtin, Sem.run_bind, Sem.run_pure, Result.andThen_ok, List.map_toArray, List.map_cons, List.map_nil, hs, hx, hr]
  exact h v' w' h2 h3 h4
end Go.Proofs.YtlooaipipmiijaaGreat.Bg

namespace Go.Proofs.YtlooaipipmiijaaGreat
set_option linter.unusedVariables false
set_option linter.unusedSimpArgs false
open Go.RowKit
theorem results_cs {fn : Func} {p q : Tmp} {T : TypeId} (h : fn.results = #[.cell p T, .tmp q]) {tmps : Array Value} {P : Program} {w : World} {g : Nat} {T' : TypeId} {cs : List Value} {d : TypeDesc} {y : Value} (hy : tmps.getD q undef = y)
    (ha : tmps.getD p undef = .pointer (some ⟨g, 0, none⟩)) (hb : Blk w g T' cs) (hu : P.underlying T = some d) (hd : (match d with | .struct _ | .array _ _ => true | _ => false) = true) (hi : (P.info? T).map (·.size) = some cs.length) :
    (results fn tmps).run P w = .ok (.tuple #[.agg cs.toArray, y]) w := by
  subst hy
  have hx : (loadVar T ⟨g, 0, none⟩).run P w = .ok (.agg cs.toArray) w := run_loadVar_row w g T' T cs.toArray (0, 0) d hb hu (by cases d <;> first | rfl | (cases hd)) (by simpa using hi)
  simp only [results, h]
  simp [Sem.run_bind, Result.andThen, -Array.getD_eq_getD_getElem?, ha, hx, asAddr]
structure PutA (g g1 : SG) (id : Nat) : Prop where
  V : g1.V = g.V
  E : g1.E = g.E
  last : g1.last = g.last
  Lv : g1.Lv = g.Lv
  nl : g1.nl = g.nl
  R : g1.R = g.R
  KI : g1.KI = g.KI
  inc : g1.inc = g.inc
  c : g1.c = g.c
  tab : (g.KI id ∧ g1.LvT = g.LvT ∧ g1.D = g.D) ∨ (¬ g.KI id ∧ ∃ i, i < g.V ∧ ¬ g.LvT i ∧ g1.LvT = (fun x => g.LvT x ∨ x = i) ∧ g1.D = upC g.D i id)
structure PutS (b : Nat) (g : SG) (w : World) (id : Nat) (e : Ending) (w' : World) : Prop where
  val : ∃ i f c, e = .returned (.tuple #[.int .i64 i, .bool f, .int .i64 c])
  ex : ∃ g1, StS b g w g1 w' ∧ PutA g g1 id
theorem st_put {w : World} {b : Nat} {g : SG} {Inc : Nat → Nat → Prop} (h : StM w b g) (hl : StLg g Inc) (id : Nat) (hr : ¬ g.KI id → cntP g.LvT g.V < g.V) :
    Calls Tryz.prog 90 #[.pointer (some ⟨g.tb, 0, none⟩), .int .u64 id] w (PutS b g w id) := by
  refine (in_put w g.tb g.V g.LvT g.D g.FT h.tb id).mono fun e w' q => ?_
  by_cases c : g.KI id
  · obtain ⟨i, i1, i2⟩ := (hl.table id).1 c
    obtain ⟨e1, _, e3⟩ := q.old i i1 i2
    exact ⟨⟨_, _, _, e1⟩, g, (StS.refl h).below e3, ⟨rfl, rfl, rfl, rfl, rfl, rfl, rfl, rfl, rfl, .inl ⟨c, rfl, rfl⟩⟩⟩
  · have hno : ∀ j, g.LvT j → g.D j ≠ id := fun j hj e => c ((hl.table id).2 ⟨j, hj, e⟩)
    obtain ⟨i, i1, i2, e1, e2, e3⟩ := q.new hno (by have := hr c; omega)
    exact ⟨⟨_, _, _, e1⟩, _, h.sTb e3 (e2.wide (fun k e => e.imp (fun e => e) (fun e => e.1))), ⟨rfl, rfl, rfl, rfl, rfl, rfl, rfl, rfl, rfl, .inr ⟨c, i, i1, i2, rfl, rfl⟩⟩⟩
theorem SG.at_of (g : SG) (id : Nat) : ∃ v l, g.at id v l := by
  by_cases c : g.KI id
  · exact ⟨_, _, .inl ⟨c, rfl, rfl⟩⟩
  · exact ⟨_, _, .inr ⟨c, rfl, rfl⟩⟩
theorem Tryz.zeroInts (w : World) : (zeroValue 58).run Tryz.prog w = .ok (.slice none 0 0) w := by kernel_rfl
theorem Tryz.infoIntS : (Tryz.prog.info? 3).map (fun i => (i.zero, i.size, i.bytes)) = some (some (.int .i64 0), 1, 8) := by kernel_rfl
def SrF (b mb id slot : Nat) (vv : Value) (q : Nat) (v : Value) : Prop :=
  match q with
  | 0 => v = .pointer (some ⟨b, 0, none⟩)
  | 1 => v = .pointer (some ⟨b, 0, none⟩)
  | 2 => v = .pointer (some ⟨b, 6, none⟩)
  | 3 => v = .map (some mb)
  | 4 => v = .int .u64 (id : Int)
  | 5 => v = .pointer (some ⟨b, 0, none⟩)
  | 6 => v = .pointer (some ⟨b, 0, none⟩)
  | 7 => v = .pointer (some ⟨b, 6, none⟩)
  | 8 => v = .map (some mb)
  | 9 => v = .int .u64 (id : Int)
  | 10 => v = vv
  | _ => v = .int .i64 (slot : Int)
structure SrB (w : World) (vv : Value) (l : List Nat) (slot : Nat) (z : Value) (W : World) : Prop where
  mod : Mod (fun k => vv.ownBlock = some k) w W
  own : W.ownsRow 0 3 1 z (l ++ [slot]).length (natV64 (l ++ [slot]))
  new : ∀ k, z.ownBlock = some k → vv.ownBlock = some k ∨ w.heap.size ≤ k
theorem SrB.of {w w' : World} {vv z : Value} {l : List Nat} {slot : Nat} (h1 : w'.ownsRow 0 3 1 z (l.length + 1) (natV64 l ++ [.int .i64 (slot : Int)])) (h2 : (w.drew.alloc (.cells #[.int .i64 (slot : Int)] 3)).grownBy w' vv.ownBlock) (h3 : ∀ k, z.ownBlock = some k → vv.ownBlock = some k ∨ (w.drew.alloc (.cells #[.int .i64 (slot : Int)] 3)).heap.size ≤ k) : SrB w vv l slot z w' := by
  refine ⟨((Mod.refl (fun k => vv.ownBlock = some k) w).drew.alloc _).grown h2 (fun k e _ => e), ?_, fun k e => ?_⟩
  · have e1 : (l ++ [slot]).length = l.length + 1 := by simp
    have e2 : natV64 (l ++ [slot]) = natV64 l ++ [.int .i64 (slot : Int)] := by unfold natV64; rw [List.map_append]; rfl
    rw [e1, e2]; exact h1
  · rcases h3 k e with c | c
    · exact .inl c
    · have : (w.drew.alloc (.cells #[.int .i64 (slot : Int)] 3)).heap.size = w.heap.size + 1 := by simp
      exact .inr (by omega)
def SrA (w : World) (g : SG) (vv : Value) (l : List Nat) (id slot : Nat) (ys : List Value) (W : World) : Prop :=
  match ys with
  | [] => W = w.drew
  | [y] => W = w.drew.alloc (.cells #[.int .i64 (slot : Int)] 3) ∧ y = .slice (some ⟨w.heap.size, 0, none⟩) 1 1
  | [_, z] => SrB w vv l slot z W
  | [_, z, _] => ∃ W1, SrB w vv l slot z W1 ∧ MapK .u64 W Tryz.prog 25 g.mb (if (g.fm (id : Int)).isSome then g.c else g.c + 1) (fun j => if j = (id : Int) then some z else g.fm j) ∧ Mod (fun k => k = g.mb) W1 W
  | _ => False
theorem SrA.reads {w : World} {b : Nat} {g : SG} {vv : Value} {l : List Nat} {id slot : Nat} (h : StM w b g) (ha : g.at id vv l) (hid : id < 18446744073709551616) : ∀ ys W, SrA w g vv l id slot ys W → W.cell? ⟨b, 6, none⟩ = some (.map (some g.mb)) ∧ (¬ 2 ≤ ys.length → (Instr.lookup 121 (.map (some g.mb)) (.int .u64 (id : Int)) false).run Tryz.prog W = .ok vv W) := by
  intro ys W hst
  have hne : ∀ k, vv.ownBlock = some k → k ≠ b := fun k e e2 => by
    rcases ha with ⟨h1, rfl, rfl⟩ | ⟨h1, rfl, rfl⟩
    · injection e with e
      have e' : g.gb id = k := e
      have := h.k5 id h1
      have := h.k0
      rw [e', e2] at *
      omega
    · cases e
  have hb : ∀ z W1, SrB w vv l slot z W1 → W1.cell? ⟨b, 6, none⟩ = some (.map (some g.mb)) := fun z W1 hz => (h.box.mod hz.mod (fun e => hne b e rfl)).cell (i := 6) rfl
  have hlk : ∀ W1, MapK .u64 W1 Tryz.prog 25 g.mb g.c g.fm → (Instr.lookup 121 (.map (some g.mb)) (.int .u64 (id : Int)) false).run Tryz.prog W1 = .ok vv W1 := fun W1 hm => by
    have := hm.look Tryz.underlying25 Tryz.underlying121 (Tryz.zeroInts W1) (i := (id : Int)) (wf_u64K (by omega) (by omega))
    rw [SG.at_get ha] at this
    exact this
  match ys, hst with
  | [], hst =>
    have e : W = w.drew := hst
    subst e
    exact ⟨h.s6, fun _ => hlk _ (h.map.heap rfl)⟩
  | [y], hst =>
    obtain ⟨rfl, _⟩ := hst
    have hbl : Below w.heap.size w (w.drew.alloc (.cells #[.int .i64 (slot : Int)] 3)) := (Below.refl _ _).drew.alloc (Nat.le_refl _) _
    exact ⟨(h.below hbl).s6, fun _ => hlk _ (h.below hbl).map⟩
  | [_, z], hst => exact ⟨hb z W hst, fun c => absurd (by simp) c⟩
  | [_, z, _], hst =>
    obtain ⟨W1, h1, h2, h3⟩ := hst
    refine ⟨?_, fun c => absurd (by simp) c⟩
    rw [h3.cell (p := ⟨b, 6, none⟩) (World.block_lt_of_cell? W1 _ (hb z W1 h1)) (fun e => by have e' : b = g.mb := e; have := h.k0; have := h.k4; rw [← e'] at this; omega)]
    exact hb z W1 h1
theorem SrA.app {w : World} {b : Nat} {g : SG} {vv : Value} {l : List Nat} {id : Nat} (h : StM w b g) (ha : g.at id vv l) (slot : Nat) : ∀ W, W = w.drew.alloc (.cells #[.int .i64 (slot : Int)] 3) → W.ownsRow 0 3 1 vv l.length (natV64 l) ∧
    (∀ j u, [Value.int .i64 (slot : Int)][j]? = some u → W.cell? ((⟨w.heap.size, 0, none⟩ : Addr).add j) = some u) := by
  rintro W rfl
  refine ⟨?_, news_new w.drew 3 [.int .i64 (slot : Int)]⟩
  exact owns_same ((h.atRow ha).alloc (.cells #[.int .i64 (slot : Int)] 3)) (fun k e => rfl)
theorem SrB.map {w W : World} {b : Nat} {g : SG} {vv z : Value} {l : List Nat} {id slot : Nat} (h : StM w b g) (ha : g.at id vv l) (hz : SrB w vv l slot z W) : MapK .u64 W Tryz.prog 25 g.mb g.c g.fm := by
  refine h.map.mod hz.mod (fun e => ?_)
  rcases ha with ⟨h1, rfl, rfl⟩ | ⟨h1, rfl, rfl⟩
  · injection e with e
    have e' : g.gb id = g.mb := e
    have := h.k5 id h1
    have := h.k4
    rw [e'] at *
    omega
  · cases e
theorem wp_storeKD {q : IntKind} {P : Program} {k t e : TypeId} {b c : Nat} {G : Int → Option Value} {w : World} {m x v : Operand} {d : Option Tmp} {ty : TypeId} {pos : String} {aft : Array Edge} {gd : Option (Nat × Bool)} {a : Act} {K : Act → World → Prop} {F : Exit → Act → World → Prop}
    (hk : P.underlying k = some (.int q)) (ht : P.underlying t = some (.map k e)) (hm : a.eval m = .map (some b)) (h : MapK q w P k b c G) (hn : c < maxLen) {i : Int} (hi : (Lit.int q i).wf = true) (val : Value) (hx : a.eval x = .int q i) (hv : a.eval v = val)
    (hK : ∀ w', MapK q w' P k b (if (G i).isSome then c else c + 1) (fun j => if j = i then some val else G j) → Mod (fun x => x = b) w w' → K (a.put d undef) w') : Oper.wp P ⟨d, .mapUpdate t m x v, ty, pos, aft, gd⟩ a w K F := by
  obtain ⟨w', hrun, r1, r2⟩ := h.store hk ht hn hi val
  unfold Oper.wp
  simp [execOp, hm, hx, hv, hrun, Result.andThen]
  exact hK w' r1 r2
theorem SrA.fin {w W : World} {b : Nat} {g0 g : SG} {vv y z q : Value} {l : List Nat} {id slot : Nat} (h : StM w b g) (hp : PutA g0 g id) (ha : g.at id vv l) (hst : SrA w g vv l id slot [y, z, q] W) :
    ∃ g2, StS b g w g2 W ∧ Put2 g0 id slot g2 ∧ g2.E = g0.E ∧ g2.last = g0.last ∧ g2.Lv = g0.Lv ∧ g2.nl = g0.nl ∧ g2.R = g0.R := by
  obtain ⟨W1, h1, h2, h3⟩ := hst
  obtain ⟨gb', gc', _, hs⟩ := h.sMap ha (by simp) h1.mod h1.own h1.new h2 h3
  refine ⟨_, hs, ⟨hp.V, fun x => by rw [← hp.KI], ⟨fun x hx => ?_, fun hk => ?_, fun hk => ?_⟩, ?_⟩, hp.E, hp.last, hp.Lv, hp.nl, hp.R⟩
  · show upF g.inc id (l ++ [slot]) x = _
    rw [uF_ne _ _ hx, hp.inc]
  · show upF g.inc id (l ++ [slot]) id = _
    rw [uF_same]
    rcases ha with ⟨k1, _, k3⟩ | ⟨k1, _, _⟩
    · rw [k3, hp.inc]
    · rw [hp.KI] at k1; exact absurd hk k1
  · show upF g.inc id (l ++ [slot]) id = _
    rw [uF_same]
    rcases ha with ⟨k1, _, k3⟩ | ⟨k1, _, k3⟩
    · rw [hp.KI] at k1; exact absurd k1 hk
    · rw [k3, List.nil_append]
  · rcases hp.tab with ⟨k, e1, e2⟩ | ⟨k, i, i1, i2, e1, e2⟩
    · refine .inl ⟨k, e1, e2, ?_⟩
      show (if (g.fm (id : Int)).isSome then g.c else g.c + 1) = _
      rw [SG.fm_yes (by rw [hp.KI]; exact k)]
      exact hp.c
    · refine .inr ⟨k, i, i1, i2, e1, e2, ?_⟩
      show (if (g.fm (id : Int)).isSome then g.c else g.c + 1) = _
      rw [SG.fm_no (by rw [hp.KI]; exact k)]
      exact congrArg (· + 1) hp.c
end Go.Proofs.YtlooaipipmiijaaGreat
