/- 'for x := range seq': the loop's record, a round, the statement: where the iterator may write memory and no round leaves early. -/
import Derived.RangeFuncNested
import Derived.RangeFuncBound
import Derived.RangeFuncCalls
import Derived.RangeFuncLeaves
import Derived.Shelf.Abstract
import Derived.OwnWalkIn
import Derived.TacticsInMore
import Derived.LoopNIn
import Derived.LoopIn
import Derived.Test.YthacjealoomioaaZMgA
namespace Go.Proofs.Ythacjealoomioaa
set_option linter.unusedVariables false
set_option linter.unusedSimpArgs false
open Go.RowKit Go.Shelf

/-- The record of a loop. -/
def recOf (fn : FuncId) (tmps : Array Value) (ps : Array Tmp) (assign body : Code) (D : Nat) (st : LoopState) : Loop :=
  { state := st, pending := none, fn, tmps, params := ps, assign, body, defers := D }

theorem Mod.putObj {F : Nat → Prop} {a w : World} (h : Mod F a w) (l : Nat) (o : Obj) (hl : l < a.heap.size → F l) : Mod F a (w.putObj l o) :=
  h.trans (G := fun x => x = l) ⟨rfl, rfl, rfl, by simp [World.putObj], fun _ _ hk => World.putObj_heap_other hk⟩ (fun x hx e => by subst e; exact hl hx)

theorem wp_range {P : Program} {n : Nat} {g : Operand} {ps : Array Tmp} {assign body : Code} {Q : Exit → Act → World → Prop} {a : Act} {w : World}
    {gf : Nat} {lb : Array Value} (hg : a.eval g = .func (.func gf) #[] lb) (eg : ∀ args w, (callFunc gf args).run P w = .ok (.enter gf args) w)
    (Done : World → Prop)
    (hcall : ∀ fn, CallsIn Fence.wide (n - 1) P gf (#[.func (.yield (w.heap.size + 1)) #[] #[]] ++ lb) ((w.alloc (.deferred (some []))).alloc (.loop (recOf fn a.tmps ps assign body w.heap.size .ready)))
      fun e W2 => (∃ v, e = .returned v) ∧ W2.heap[w.heap.size + 1]? = some (.loop (recOf fn a.tmps ps assign body w.heap.size .ready)) ∧ W2.heap[w.heap.size]? = some (.deferred (some [])) ∧ Done W2)
    (hdone : ∀ W2 r, Done W2 →
      Q .normal { a with defers := { target := .collected w.heap.size, args := #[] } :: a.defers } (W2.putObj (w.heap.size + 1) (.loop r))) :
    (Code.rangeFunc g ps assign body).wpIn Fence.wide n P Q a w := by
  refine wpIn_rangeFunc ?_
  intro fn hfn
  refine ⟨w.heap.size + 1, [{ target := .collected w.heap.size, args := #[] }], ((w.alloc (.deferred (some []))).alloc (.loop (recOf fn a.tmps ps assign body w.heap.size .ready))), { target := .fn (.func gf) lb, args := #[.func (.yield (w.heap.size + 1)) #[] #[]] },
    ((w.alloc (.deferred (some []))).alloc (.loop (recOf fn a.tmps ps assign body w.heap.size .ready))), gf,
    #[.func (.yield (w.heap.size + 1)) #[] #[]] ++ lb, ((w.alloc (.deferred (some []))).alloc (.loop (recOf fn a.tmps ps assign body w.heap.size .ready))), run_enterLoop_outer _ _ _ _ _, ?_, fun _ _ => trivial, ?_, fun h => by simp [Fence.wide] at h, ?_⟩
  · simp only [resolve, hg]
    simp [go_sem]
  · simp [invoke, go_sem, eg]
  · refine CallsIn.mono (hcall fn) ?_
    rintro e W2 ⟨⟨v, rfl⟩, hl, hk, hd⟩
    exact ⟨none, _, run_endLoop (P := P) hl (by simp [recOf]), hdone _ _ hd⟩

/-- How a round's body ends. -/
def roundOk (L : Nat) (rb r : Loop) (R : Ending → World → Prop) : Exit → Act → World → Prop
  | .normal, _, W3 => W3.heap[L]? = some (.loop rb) ∧ R (.returned (.bool true)) (W3.putObj L (.loop r))
  | _, _, _ => False

theorem yieldAt_of {P : Program} {m l : Nat} {W : World} {args : Array Value} {R : Ending → World → Prop} {fn : FuncId} {tmps : Array Value} {ps : Array Tmp} {assign body : Code} {D : Nat}
    (hl : W.heap[l]? = some (.loop (recOf fn tmps ps assign body D .ready))) (hs : args.size = ps.size) (a1 : Act)
    (hassign : ∀ K : Act → World → Prop, K a1 W → assign.wpIn (Fence.wide.inRound l) m P (Exit.then K (fun _ _ _ => False)) { tmps := (ps.zip args).foldl (fun t (p, v) => t.setIfInBounds p v) tmps, defers := [] } W)
    (hbody : ∀ r rb Wb, recOf fn tmps ps assign body D .ready = r → Wb = W.putObj l (.loop rb) → body.wpIn (Fence.wide.inRound l) m P (roundOk l rb r R) a1 Wb) :
    YieldAt Fence.wide m P l args W R := by
  have hy := run_yield (P := P) (args := args) hl (by simpa [recOf] using hs)
  refine ⟨fn, _, assign, body, hy, roundIn_of_wpIn trivial (hassign _ ⟨_, run_beginRound hl rfl, ?_⟩)⟩
  refine wpIn_mono (hbody _ (recOf fn tmps ps assign body D .busy) _ rfl rfl) ?_
  intro e a3 W3 hp
  cases e with
  | normal =>
    obtain ⟨h1, h2⟩ := hp
    exact ⟨_, _, run_endRound (P := P) none h1, h2⟩
  | ret => exact hp.elim
  | exit id => exact hp.elim
  | goto t => exact hp.elim
  | panic ch => exact hp.elim
  | outgrown => exact hp.elim

theorem wpListIn_appendB {F : Fence} {k : Nat} {P : Program} {ops : Array Oper} {rest : List Oper} {d : Tmp} {t ty : TypeId} {s x : Operand} {pos : String} {aft : Array Edge} {a : Act} {Q : Exit → Act → World → Prop} {w : World}
    (e : TypeId) (z : Value) (size bytes : Nat) (ht : P.underlying t = some (.slice e)) (hz : (P.info? e).map (fun i => (i.zero, i.size, i.bytes)) = some (some z, size, bytes))
    (hzs : z.cells.size = size) (hsz : 0 < size) (v : Value) (n : Nat) (xs : List Value) (hs : a.eval s = v) (hown : w.ownsRow 0 e size v n xs)
    (ad : Addr) (m c : Nat) (news : List Value) (hx : a.eval x = .slice (some ad) m c) (hl : news.length = m * size) (hnews : ∀ j u, news[j]? = some u → w.cell? (ad.add j) = some u) (h1 : ∀ u ∈ news, u.oneCell' = true)
    (h63 : n + m ≤ maxLen) (hbytes : (n + m) * bytes ≤ 140737488355328)
    (h : ∀ v' w', w'.ownsRow 0 e size v' (n + m) (xs ++ news) → w.grownBy w' v.ownBlock → (∀ k, v'.ownBlock = some k → v.ownBlock = some k ∨ w.heap.size ≤ k) → wpListIn F k P ops Q rest (a.put (some d) v') w') :
    wpListIn F k P ops Q (⟨some d, .call { callee := .builtin .append, args := #[s, x], argTypes := #[t, t] }, ty, pos, aft, none⟩ :: rest) a w := by
  obtain ⟨v', w', hr, h2, h3, h4⟩ := run_appendB (P := P) w t ty e z size bytes ht hz hzs hsz v n xs hown ad m c news hl hnews h1 h63 hbytes
  refine wpListIn_plain rfl fun K hK' => ?_
  unfold Oper.wpIn
  refine ⟨?_, ?_⟩
  · simp [Oper.about, resolve, Target.leads, Sem.run_pure]
  · rw [Oper.semAt_plain F _ _ (by intro c hc'; cases hc')]
    simp [execOp, resolve, invoke, builtin, hs, hx, hr, Result.andThen]
    exact hK' _ _ (h v' w' h2 h3 h4)

end Go.Proofs.Ythacjealoomioaa
