/- RcA, RcK, Round, Still. -/
import Derived.Test.YthacjealoomioaaGreatDoorZGa
import Derived.Test.YthacjealoomioaaGreatDoorZGb
import Derived.Test.YthacjealoomioaaGreatDoorProg
import Derived.BigQuiet
/- Rows of edges and of numbers in memory. No program in sight. -/
namespace Go.Proofs.YthacjealoomioaaGreatDoor
set_option linter.unusedVariables false
set_option linter.unusedSimpArgs false
open Go.RowKit

/-- Numbers from 0 on, as cells. -/
def natV (l : List Nat) : List Value := l.map fun x : Nat => Value.int .i64 (x : Int)

theorem natV_len (l : List Nat) : (natV l).length = l.length := by simp [natV]
theorem natV_one (l : List Nat) : ∀ u ∈ natV l, u.oneCell' = true := by
  intro u hu
  obtain ⟨x, _, rfl⟩ := List.mem_map.1 hu
  rfl
theorem natV_zero (n : Nat) : natV (List.replicate n 0) = List.replicate n (.int .i64 0) := by simp [natV]
theorem natV_get {l : List Nat} {i : Nat} (hi : i < l.length) : (natV l)[i]? = some (.int .i64 ((l.getD i 0 : Nat) : Int)) := by
  unfold natV
  rw [List.getElem?_map, List.getD_eq_getElem?_getD, List.getElem?_eq_getElem hi]; rfl
theorem natV_set (l : List Nat) (i x : Nat) : (natV l).set i (.int .i64 (x : Int)) = natV (l.set i x) := by unfold natV; rw [List.map_set]

theorem blkN {w : World} {b : Nat} {T : TypeId} {l : List Nat} (h : Blk w b T (natV l)) {i : Nat} (hi : i < l.length) : w.cell? ⟨b, i, none⟩ = some (.int .i64 ((l.getD i 0 : Nat) : Int)) := h.cell (natV_get hi)
theorem blkN_set {w : World} {b : Nat} {T : TypeId} {l : List Nat} (h : Blk w b T (natV l)) (i x : Nat) : Blk (w.setCell ⟨b, i, none⟩ (.int .i64 (x : Int))) b T (natV (l.set i x)) := by
  have := h.set i (.int .i64 (x : Int))
  rw [natV_set] at this
  exact this

theorem blkI {w : World} {b : Nat} {T : TypeId} {l : List Int} (h : Blk w b T (l.map fun y => .int .i64 y)) {i : Nat} (hi : i < l.length) : w.cell? ⟨b, i, none⟩ = some (.int .i64 (l.getD i 0)) := by
  refine h.cell ?_
  rw [List.getElem?_map, List.getD_eq_getElem?_getD, List.getElem?_eq_getElem hi]; rfl
theorem blkI_set {w : World} {b : Nat} {T : TypeId} {l : List Int} (h : Blk w b T (l.map fun y => .int .i64 y)) (i : Nat) (x : Int) : Blk (w.setCell ⟨b, i, none⟩ (.int .i64 x)) b T ((l.set i x).map fun y => .int .i64 y) := by
  have := h.set i (.int .i64 x)
  rw [← List.map_set] at this
  exact this

/-- Numbers from 0 on that are read: a row of integers. -/
def nI (l : List Nat) : List Int := l.map fun x : Nat => (x : Int)
theorem nI_len (l : List Nat) : (nI l).length = l.length := by simp [nI]
theorem nI_at {l : List Nat} {i : Nat} (hi : i < l.length) : (nI l).getD i 0 = ((l.getD i 0 : Nat) : Int) := by
  unfold nI
  rw [List.getD_eq_getElem?_getD, List.getElem?_map, List.getD_eq_getElem?_getD, List.getElem?_eq_getElem hi]; rfl
theorem natV_nI (l : List Nat) : natV l = (nI l).map fun y => .int .i64 y := by simp [natV, nI]
theorem bel_then {w wy w' : World} (h1 : Below w.heap.size w wy) (h2 : Below wy.heap.size wy w') : Below w.heap.size w w' := h1.trans (h2.mono h1.size)

theorem bel_mod {F : Nat → Prop} {w w1 w2 : World} (h : Below w.heap.size w w1) (m : Mod F w1 w2) (hF : ∀ x, F x → w.heap.size ≤ x) : Below w.heap.size w w2 := h.trans (m.below h.size hF)

/-- w2 is w behind a draw. -/
def DrewOf (w w2 : World) : Prop := w2 = w.drew
theorem DrewOf.cell {w w2 : World} (h : DrewOf w w2) {p : Addr} {v : Value} (hc : w.cell? p = some v) : w2.cell? p = some v := by unfold DrewOf at h; subst h; exact hc
theorem DrewOf.frozen {w w2 : World} (h : DrewOf w w2) {p : Addr} {v : Bool} (hc : w.frozen? p = v) : w2.frozen? p = v := by unfold DrewOf at h; subst h; exact hc
theorem DrewOf.blk {w w2 : World} (h : DrewOf w w2) {b : Nat} {T : TypeId} {cs : List Value} (hc : Blk w b T cs) : Blk w2 b T cs := by unfold DrewOf at h; subst h; exact hc
theorem DrewOf.mod {F : Nat → Prop} {a w w2 : World} (h : DrewOf w w2) (hc : Mod F a w) : Mod F a w2 := by unfold DrewOf at h; subst h; exact hc.drew
theorem DrewOf.bel {B : Nat} {a w w2 : World} (h : DrewOf w w2) (hc : Below B a w) : Below B a w2 := by unfold DrewOf at h; subst h; exact hc.drew
theorem DrewOf.size {w w2 : World} (h : DrewOf w w2) : w2.heap.size = w.heap.size := by unfold DrewOf at h; subst h; rfl

theorem region_tailD {P : Program} {id : Nat} {Q : Exit → Act → World → Prop} {a : Act} {w : World} {l : List Oper} (n : Nat) (hm : P.follows .mixedOrders = true) (hB : Region.lexTailB .any l.toArray n = true)
    (h : ∀ w2, DrewOf w w2 → wpStill P l.toArray w2 (fun a' => wpList P l.toArray Q (l.drop n) a' w2) (l.take n) a) : (Code.region id l.toArray true).wp P Q a w := region_tail n hm hB h

end Go.Proofs.YthacjealoomioaaGreatDoor

/- slices.Clone of numbers and of edges. -/
namespace Go.Proofs.YthacjealoomioaaGreatDoor
set_option linter.unusedVariables false
set_option linter.unusedSimpArgs false
open Go.RowKit

theorem Tryz.infoInt : (Tryz.prog.info? 3).map (fun i => (i.zero, i.size, i.bytes)) = some (some (.int .i64 0), 1, 8) := by kernel_rfl
/-- A new row. -/
structure NewRow (w : World) (T : TypeId) (size n : Nat) (cs : List Value) (v : Value) (w' : World) : Prop where
  own : w'.ownsRow 0 T size v n cs
  bel : Below w.heap.size w w'
  new : ∀ k, v.ownBlock = some k → w.heap.size ≤ k

structure RowPost (w : World) (T : TypeId) (size n : Nat) (cs : List Value) (e : Ending) (w' : World) : Prop where
  out : ∃ v, e = .returned v ∧ NewRow w T size n cs v w'

/-- A slice whose cells are cs. -/
structure Src (w : World) (ao : Option Addr) (m cap size : Nat) (cs : List Value) : Prop where
  len : cs.length = m * size
  cell : ∀ ad, ao = some ad → ∀ j u, cs[j]? = some u → w.cell? (ad.add j) = some u
  nil : ao = none → m = 0 ∧ cap = 0
  one : ∀ u ∈ cs, u.oneCell' = true

theorem owns_empty2 (w : World) (T : TypeId) (size : Nat) : (w.alloc (.cells #[] T)).ownsRow 0 T size (.slice (some ⟨w.heap.size, 0, none⟩) 0 0) 0 [] :=
  ⟨by simp, .inr ⟨w.heap.size, 0, #[], rfl, Nat.zero_le _, heap_alloc_new w _, Nat.le_refl _, by unfold maxLen; omega, by simp, by simp⟩⟩

theorem Src.below {w w' : World} {ao : Option Addr} {m cap size : Nat} {cs : List Value} (h : Src w ao m cap size cs) (hb : Below w.heap.size w w') : Src w' ao m cap size cs :=
  ⟨h.len, fun ad he j u hu => (hb.cell (World.block_lt_of_cell? w _ (h.cell ad he j u hu))).trans (h.cell ad he j u hu), h.nil, h.one⟩

theorem new_row {w w2 : World} {T : TypeId} {size m : Nat} {cs : List Value} {v2 : Value} (ho : w2.ownsRow 0 T size v2 (0 + m) ([] ++ cs)) (hg : (w.alloc (.cells #[] T)).grownBy w2 (Value.slice (some ⟨w.heap.size, 0, none⟩) 0 0).ownBlock)
    (hk : ∀ k, v2.ownBlock = some k → (Value.slice (some ⟨w.heap.size, 0, none⟩) 0 0).ownBlock = some k ∨ (w.alloc (.cells #[] T)).heap.size ≤ k) : NewRow w T size m cs v2 w2 := by
  have hb : Below w.heap.size w (w.alloc (.cells #[] T)) := (Below.refl _ _).alloc (Nat.le_refl _) _
  rw [Nat.zero_add, List.nil_append] at ho
  refine ⟨ho, hb.trans (((Mod.refl (fun k => some k = some w.heap.size) _).grown hg (fun k hk _ => hk.symm)).below hb.size (fun k hk => by injection hk with hk; omega)), fun k e => ?_⟩
  rcases hk k e with h1 | h1
  · cases h1; exact Nat.le_refl _
  · have := hb.size; omega

set_option maxHeartbeats 1000000 in
theorem cloneI_ok (w : World) (ao : Option Addr) (m cap : Nat) (cs : List Value) (h : Src w ao m cap 1 cs) (hm : m ≤ 100000) :
    Calls Tryz.prog 67 #[.slice ao m cap] w (RowPost w 3 1 m cs) := by
  have HS := Lib.hid h
  cases ao with
  | none =>
    obtain ⟨rfl, rfl⟩ := h.nil rfl
    have hc : cs = [] := List.eq_nil_of_length_eq_zero (by simpa using h.len)
    subst hc
    clear h
    have hq := Lib.run_eql_slice_nil (P := Tryz.prog) w 24 3 none 0 0 0 0 Tryz.underlying24
    go_enter Tryz.func67, Tryz.ntmps67
    go_wp2_with fail
    go_ret
    exact ⟨_, rfl, World.ownsRow_nil _ _ _ _, Below.refl _ _, by simp [Value.ownBlock]⟩
  | some ad =>
    clear h
    have HB := Lib.hid ((HS.out.below ((Below.refl w.heap.size w).alloc (Nat.le_refl _) (.cells #[] 3))))
    have HE := Lib.hid (owns_empty2 w 3 1)
    have hq := Lib.run_eql_slice_nil (P := Tryz.prog) w 24 3 (some ad) m cap 0 0 Tryz.underlying24
    go_enter Tryz.func67, Tryz.ntmps67
    go_wp2_with (at_builtin; apply keepIt)
    apply Lib.hid
    refine wpList_appendB 3 (.int .i64 0) 1 8 Tryz.underlying24 Tryz.infoInt rfl (by decide) _ 0 [] rfl HE.out ad m cap cs rfl HB.out.len (HB.out.cell ad rfl) HB.out.one (by unfold maxLen; omega) (by omega) ?_
    intro v2 w2 ho hg hk
    have FIN := Lib.hid (new_row ho hg hk)
    clear ho hg hk
    go_wp2_with fail
    go_ret
    exact ⟨_, rfl, FIN.out⟩

end Go.Proofs.YthacjealoomioaaGreatDoor

/- A region that draws its order, of plain operations, inside a fence or a round of a range over a function: by the laws outside. No program in sight. -/
namespace Go.Proofs.YthacjealoomioaaGreatDoor
set_option linter.unusedVariables false
set_option linter.unusedSimpArgs false
open Go.RowKit

def plainOp (o : Oper) : Bool :=
  match o.op with
  | .nilCheck _ | .extract _ _ | .move _ | .assign _ | .pick _ _ _ | .alloc _ | .box _ _ | .build _ _ | .buildSlice _ _ _ | .load _ _ | .store _ _ _ | .binOp _ _ _ _ _ | .unOp _ _ _ | .convert _ _ _ | .makeSlice _ _ _ | .slice _ _ _ _ _ | .fieldAddr _ _ _ | .field _ _ _ | .indexAddr _ _ _ | .index _ _ _ => true
  | _ => false

/-- A result that is a value, or nothing. -/
def Flow (r : Result Next) : Prop := (∃ v w, r = .ok (.value v) w) ∨ (∃ w, r = .ok .skip w) ∨ ∃ h w, r = .halt h w

theorem flow_v {P : Program} {w : World} (s : Sem Value) : Flow ((do pure (Next.value (← s)) : Sem Next).run P w) := by
  simp only [Sem.run_bind, Sem.run_pure]
  cases s.run P w with
  | ok v w' => exact .inl ⟨v, w', rfl⟩
  | halt h w' => exact .inr (.inr ⟨h, w', rfl⟩)

theorem flow_u {P : Program} {w : World} (s : Sem Unit) : Flow ((do s; pure Next.skip : Sem Next).run P w) := by
  simp only [Sem.run_bind, Sem.run_pure]
  cases s.run P w with
  | ok v w' => exact .inr (.inl ⟨w', rfl⟩)
  | halt h w' => exact .inr (.inr ⟨h, w', rfl⟩)

theorem flow_pick {P : Program} {w : World} (s : Sem Bool) (f : Bool → Value) : Flow ((do pure (Next.value (f (← s))) : Sem Next).run P w) := by
  simp only [Sem.run_bind, Sem.run_pure]
  cases s.run P w with
  | ok v w' => exact .inl ⟨_, w', rfl⟩
  | halt h w' => exact .inr (.inr ⟨h, w', rfl⟩)

theorem flow_panic {P : Program} {w : World} : Flow ((runtimePanic .nilDeref : Sem Next).run P w) := .inr (.inr ⟨_, _, rfl⟩)
theorem flow_ahead {P : Program} {w : World} (s : Sem (Option Bool)) (u : Unsupported) (v : Value) : Flow ((do
    if (← s) != some false then unsupported u
    pure (Next.value v) : Sem Next).run P w) := by
  simp only [Sem.run_bind]
  cases s.run P w with
  | ok b w' =>
    simp only [Result.andThen_ok]
    split
    · exact .inr (.inr ⟨_, _, rfl⟩)
    · exact .inl ⟨_, _, rfl⟩
  | halt h w' => exact .inr (.inr ⟨h, w', rfl⟩)
theorem flow_nil {P : Program} {w : World} (x : Value) : Flow ((execOp (fun _ => x) ⟨none, .nilCheck (.tmp 0), 0, "", #[], none⟩).run P w) := by
  unfold execOp
  simp only
  split
  · exact flow_panic
  · exact flow_panic
  · exact flow_panic
  · split
    · exact flow_panic
    · rw [Sem.run_bind]
      generalize Sem.run P program w = r
      cases r with
      | ok p w1 =>
        rw [Result.andThen_ok]
        exact flow_ahead (nilAhead _ _ _ _) _ _
      | halt h w' => exact .inr (.inr ⟨h, w', rfl⟩)
    · exact .inl ⟨_, _, rfl⟩
  · exact .inl ⟨_, _, rfl⟩

theorem plain_flow {P : Program} {w : World} {o : Oper} (h : plainOp o = true) (ρ : Operand → Value) : Flow ((execOp ρ o).run P w) := by
  unfold plainOp at h
  unfold execOp
  split at h <;> rename_i hop <;> simp only [hop] <;> first
    | exact .inl ⟨_, w, rfl⟩
    | exact flow_v _
    | exact flow_u _
    | exact flow_pick _ (fun b => if b then _ else _)
    | exact flow_nil _
    | cases h

/-- Only the normal way out, and there Q. -/
def NormQ (Q : Exit → Act → World → Prop) (e : Exit) (a : Act) (w : World) : Prop := e = .normal ∧ Q .normal a w

theorem plain_about {P : Program} {w : World} {o : Oper} (hp : plainOp o = true) (ρ : Operand → Value) : o.about P w ρ = none := by
  unfold Oper.about
  cases hop : o.op <;> first | rfl | (unfold plainOp at hp; rw [hop] at hp; cases hp)

theorem wpOpIn_plain {F : Fence} {n : Nat} {P : Program} {ops : Array Oper} {Q : Exit → Act → World → Prop} {i : Nat} {K K' : Act → World → Prop} {a : Act} {w : World} (hpl : ∀ o, ops[i]? = some o → plainOp o = true)
    (hK : ∀ a w, K a w → K' a w) (h : wpOp P ops (NormQ Q) i K a w) : wpOpIn F n P ops Q i K' a w := by
  unfold wpOp at h
  unfold wpOpIn
  cases ho : ops[i]? with
  | none => simp only [ho] at h ⊢; exact hK _ _ h
  | some o =>
    simp only [ho] at h ⊢
    have hp := hpl o ho
    have hab : ∀ f, o.about P w a.eval = some f → F.fn f := fun f hf => by rw [plain_about hp] at hf; cases hf
    by_cases hw : Region.wanted o (yielded ops a.tmps) = true
    · rw [if_pos hw] at h ⊢
      rcases h with h | ⟨_, a', w', h, _⟩
      · refine ⟨hab, ?_⟩
        rw [Oper.semAt_plain F _ _ (fun c e => by unfold plainOp at hp; rw [e] at hp; cases hp)]
        unfold Oper.wp at h
        rcases plain_flow (P := P) (w := w) hp a.eval with ⟨v, w', e⟩ | ⟨w', e⟩ | ⟨hh, w', e⟩
        · rw [e] at h ⊢; exact hK _ _ h
        · rw [e] at h ⊢; exact hK _ _ h
        · rw [e] at h
          exfalso
          cases hh <;> first | exact h | (have := h.1; cases this)
      · cases h
    · rw [if_neg hw] at h ⊢
      exact ⟨hab, hK _ _ h⟩

theorem wpAnyIn_plain {F : Fence} {n : Nat} {P : Program} {md : Region.Mode} {ops : Array Oper} {Q : Exit → Act → World → Prop} (hpl : ∀ (i : Nat) (o : Oper), ops[i]? = some o → plainOp o = true) :
    ∀ (fuel : Nat) (listed : Array Bool) (a : Act) (w : World), wpAny P md ops (NormQ Q) fuel listed a w → wpAnyIn F n P md ops Q fuel listed a w
  | 0, listed, a, w, h => ⟨h.1, h.2.2⟩
  | fuel + 1, listed, a, w, h => ⟨fun hr => (h.1 hr).2, fun i hi => wpOpIn_plain (hpl i) (fun a' w' => wpAnyIn_plain hpl fuel _ a' w') (h.2 i hi)⟩

def plainOps (l : List Oper) : Bool := l.all plainOp

theorem plainOps_of {l : List Oper} (h : plainOps l = true) : ∀ (i : Nat) (o : Oper), l.toArray[i]? = some o → plainOp o = true := by
  intro i o ho
  exact List.all_eq_true.1 h o (List.mem_of_getElem? (by simpa using ho))

theorem region_tailIn {F : Fence} {m : Nat} {P : Program} {id : Nat} {Q : Exit → Act → World → Prop} {a : Act} {w : World} {l : List Oper} (n : Nat) (hm : P.follows .mixedOrders = true) (hB : Region.lexTailB .any l.toArray n = true) (hpl : plainOps l = true)
    (h : ∀ w2, DrewOf w w2 → wpStill P l.toArray w2 (fun a' => wpList P l.toArray (NormQ Q) (l.drop n) a' w2) (l.take n) a) : (Code.region id l.toArray true).wpIn F m P Q a w := by
  have h := h _ rfl
  simp only [Region.lexTailB, Bool.and_eq_true, decide_eq_true_eq] at hB
  obtain ⟨⟨⟨⟨hsel, hn⟩, hs⟩, hc⟩, hlex⟩ := hB
  have hn' : n < l.length := by simpa using hn
  have htl : (l.take n).length = n := by simp; omega
  have hdl : (l.drop n).length = l.toArray.size - n := by simp
  have inv0 : HeadInv .any l.toArray n (Array.replicate l.toArray.size false) :=
    ⟨by simp, fun j oj _ hl => (by rw [getD_replicate_false] at hl; cases hl), fun t _ ht => getD_in (by simpa using ht) (getD_replicate_false _ _)⟩
  have H := wpAnyL_lex (md := .any) (g := l.toArray.size - n) hsel hs hc hn (l.take n) 0 _ a (fun j hj => by
    have hj' : j < n := by rw [htl] at hj; exact hj
    simp [hj']) (by simpa using htl) inv0 (by rw [htl]; exact hlex) h
  refine wpIn_region_any hm (wpAnyIn_plain (plainOps_of hpl) _ _ _ _ ?_)
  have := wpAny_of_head (Q' := NormQ Q) (g := l.toArray.size - n) (fun listed a' hL => by
    have := wpAny_of_seq (md := .any) (Q' := NormQ Q) (l.drop n) n listed a' w.drew (fun j => by simp [List.getElem?_drop]) (by rw [hdl]; exact hL.1) hL.2
    rwa [hdl] at this) _ _ _ H
  rw [htl, show n + (l.toArray.size - n) = l.toArray.size by omega] at this
  exact this

end Go.Proofs.YthacjealoomioaaGreatDoor

/- A region that draws its order, whose first operations only read: these by the quick walk for great frames. No program in sight. -/
namespace Go.Proofs.YthacjealoomioaaGreatDoor
set_option linter.unusedVariables false
set_option linter.unusedSimpArgs false
open Go.RowKit

/-- Operations that call nothing. -/
def plainQ : Op → Bool
  | .move _ => true
  | .assign _ => true
  | .pick _ _ _ => true
  | .load _ _ => true
  | .binOp _ _ _ _ _ => true
  | .fieldAddr _ _ _ => true
  | .indexAddr _ _ _ => true
  | .field _ _ _ => true
  | .index _ _ _ => true
  | .build _ _ => true
  | _ => false

theorem valueQ_only {P : Program} {s : Sem Value} {w w' : World} {f : FuncId} {args : Array Value} : (do pure (Next.value (← s)) : Sem Next).run P w ≠ .ok (.enter f args) w' := by
  rw [Sem.run_bind]
  cases s.run P w <;> simp [Result.andThen]

theorem boolQ_only {P : Program} {s : Sem Bool} {x y : Value} {w w' : World} {f : FuncId} {args : Array Value} : (do pure (Next.value (if ← s then x else y)) : Sem Next).run P w ≠ .ok (.enter f args) w' := by
  rw [Sem.run_bind]
  cases s.run P w <;> simp [Result.andThen]

theorem plainQ_no {P : Program} {o : Oper} (h : plainQ o.op = true) (ρ : Operand → Value) (w w' : World) (f : FuncId) (args : Array Value) : (execOp ρ o).run P w ≠ .ok (.enter f args) w' := by
  unfold execOp
  cases e : o.op <;> rw [e] at h <;> first | (cases h; done) | exact valueQ_only | exact boolQ_only | (simp; done)

theorem still_of_quiet {P : Program} {ops : Array Oper} {w : World} {C : World → Prop} {Q : Act → Prop} (hC : C w) : ∀ (l : List Oper) (a : Act), l.all (fun o => plainQ o.op) = true → wpQuiet P ops C Q l a → wpStill P ops w Q l a
  | [], a, _, h => h
  | o :: rest, a, hp, h => by
    rw [List.all_cons, Bool.and_eq_true] at hp
    unfold wpQuiet at h
    unfold wpStill
    by_cases hw : Region.wanted o (yielded ops a.tmps) = true
    · rw [if_pos hw] at h ⊢
      obtain ⟨v, hq, hk⟩ := h
      have h1 := hq w hC
      unfold Oper.quietAt at h1
      unfold Oper.still
      have hno := plainQ_no (P := P) hp.1 a.eval w
      cases e : (execOp a.eval o).run P w with
      | ok nx w1 =>
        rw [e] at h1
        cases nx with
        | value u => obtain ⟨e1, e2⟩ := h1; subst e2; exact ⟨e1, still_of_quiet hC rest _ hp.2 hk⟩
        | skip => obtain ⟨e1, e2⟩ := h1; subst e2; exact ⟨e1, still_of_quiet hC rest _ hp.2 hk⟩
        | enter f args => exact absurd e (hno w1 f args)
        | _ => exact h1.elim
      | _ => rw [e] at h1; exact h1.elim
    · rw [if_neg hw] at h ⊢
      exact still_of_quiet hC rest _ hp.2 h

theorem region_tailQ {P : Program} {id : Nat} {Q : Exit → Act → World → Prop} {a : Act} {w : World} {l : List Oper} (n : Nat) (hm : P.follows .mixedOrders = true) (hB : Region.lexTailB .any l.toArray n = true) (hp : (l.take n).all (fun o => plainQ o.op) = true)
    (h : ∀ w2, DrewOf w w2 → wpQuiet P l.toArray (fun w' => ∃ q, w' = w2.drewN q) (fun a' => wpList P l.toArray Q (l.drop n) a' w2) (l.take n) a) : (Code.region id l.toArray true).wp P Q a w :=
  region_tailD n hm hB (fun w2 hw2 => still_of_quiet (C := fun w' => ∃ q, w' = w2.drewN q) ⟨0, rfl⟩ _ _ hp (h w2 hw2))

end Go.Proofs.YthacjealoomioaaGreatDoor
