/- linkage: Run, its first part. -/
import Derived.Test.YthacjealoomioaaZLkE
import Derived.Test.YthacjealoomioaaZLkF
import Derived.Test.YthacjealoomioaaZLkG
import Derived.Test.YthacjealoomioaaZMgA
import Derived.Shelf.RegionOpen
namespace Go.Proofs.Ythacjealoomioaa.Lk
set_option linter.unusedVariables false
set_option linter.unusedSimpArgs false
open Go.RowKit Go.Shelf
attribute [local go_sem] Oper.semAt_some

theorem Try.infoI64 : (Try.prog.info? 2).map (fun i => (i.zero, i.size, i.bytes)) = some (some (.int .i64 0), 1, 8) := by kernel_rfl

/-- 'append([]T(nil), x...)' of a slice that came in. -/
theorem run_copyIn (w : World) (ao : Option Addr) (len cap b off : Nat) (z : List Int) (h : InRow .i64 w ao len b off z) (hc : ao = none → cap = 0) (hl : len ≤ 1000000) :
    ∃ v' w', (Builtin.append_ #[23, 23] 23 #[.slice none 0 0, .slice ao len cap]).run Try.prog w = .ok v' w' ∧ w'.ownsRow 0 2 1 v' len (z.map fun x => .int .i64 x) ∧ w.grownBy w' none ∧
      (∀ k, v'.ownBlock = some k → w.heap.size ≤ k) := by
  cases ao with
  | none =>
    have h0 : len = 0 := by
      apply Classical.byContradiction
      intro hh
      have := h.adr (by omega)
      cases this
    subst h0
    have hz : z = [] := List.eq_nil_of_length_eq_zero h.size
    subst hz
    rw [hc rfl]
    exact ⟨_, _, run_append_nil w _ _ _ _ _ _ Try.underlying23 Try.infoI64 none 0 0 (Nat.le_refl _), World.ownsRow_nil _ _ _ _, World.grownBy.refl _ _, fun k hk => by cases hk⟩
  | some ad =>
    obtain ⟨v', w', h1, h2, h3, h4⟩ := run_appendB (P := Try.prog) w 23 23 _ _ _ _ Try.underlying23 Try.infoI64 rfl (by decide) (.slice none 0 0) 0 [] (World.ownsRow_nil _ _ _ _) ad len cap (z.map fun x => .int .i64 x) (by simp [h.size]) (by
      intro j u hu
      have hj : j < len := by have := (List.getElem?_eq_some_iff.1 hu).1; simp [h.size] at this; exact this
      have e := h.adr (by omega)
      cases e
      have hadd : (⟨b, off, none⟩ : Addr).add j = ⟨b, off + j, none⟩ := by unfold Addr.add; split <;> simp_all
      rw [hadd, h.cell j hj]
      rw [List.getElem?_map] at hu
      rw [List.getD_eq_getElem?_getD]
      cases hz : z[j]? with
      | none => rw [hz] at hu; cases hu
      | some x => rw [hz] at hu; simpa using hu) (one_ints z) (by unfold maxLen; omega) (by omega)
    refine ⟨v', w', h1, by simpa using h2, h3, fun k hk => ?_⟩
    rcases h4 k hk with hh | hh
    · cases hh
    · exact hh

theorem wpListIn_run {F : Fence} {k : Nat} {P : Program} {ops : Array Oper} {rest : List Oper} {d : Tmp} {t ty : TypeId} {s x : Operand} {pos : String} {aft : Array Edge} {a : Act} {Q : Exit → Act → World → Prop} {w : World}
    (sv xv v' : Value) (w' : World) (hs : a.eval s = sv) (hx : a.eval x = xv) (hr : (Builtin.append_ #[t, t] ty #[sv, xv]).run P w = .ok v' w')
    (h : wpListIn F k P ops Q rest (a.put (some d) v') w') :
    wpListIn F k P ops Q (⟨some d, .call { callee := .builtin .append, args := #[s, x], argTypes := #[t, t] }, ty, pos, aft, none⟩ :: rest) a w := by
  refine wpListIn_plain rfl fun K hK' => ?_
  unfold Oper.wpIn
  refine ⟨?_, ?_⟩
  · simp [Oper.about, resolve, Target.leads, Sem.run_pure]
  · rw [Oper.semAt_plain F _ _ (by intro c hc'; cases hc')]
    simp [execOp, resolve, invoke, builtin, hs, hx, hr, Result.andThen]
    exact hK' _ _ h

theorem onesTo_step {k : Nat} (hk : k < 128) : (onesTo k).set k 1 = onesTo (k + 1) := by
  unfold onesTo
  rw [List.set_append_right _ _ (by simp), List.length_replicate, Nat.sub_self, show 128 - k = (128 - (k + 1)) + 1 by omega, List.replicate_succ, List.set_cons_zero, List.replicate_succ', List.append_assoc]
  rfl

theorem onesTo_length {k : Nat} (hk : k ≤ 128) : (onesTo k).length = 128 := by simp [onesTo]; omega

theorem run_buildC' (n m : Int) (fk : Nat) (ao : Option Addr) (len cap : Nat) :
    ∃ u : List Value, u = (.int .i64 n :: .int .i64 m :: .func (.func fk) #[] #[] :: (List.replicate 128 (.int .i64 0) ++ [.slice ao len cap])) ∧ ∀ w,
    (Instr.build 58 #[(0, .int .i64 n), (1, .int .i64 m), (2, .func (.func fk) #[] #[]), (4, .slice ao len cap)]).run Try.prog w
      = .ok (.agg u.toArray) w := ⟨_, rfl, fun w => by kernel_rfl⟩

theorem run_buildC (n m : Int) (fk : Nat) (ao : Option Addr) (len cap : Nat) (w : World) :
    (Instr.build 58 #[(0, .int .i64 n), (1, .int .i64 m), (2, .func (.func fk) #[] #[]), (4, .slice ao len cap)]).run Try.prog w
      = .ok (.agg (.int .i64 n :: .int .i64 m :: .func (.func fk) #[] #[] :: (List.replicate 128 (.int .i64 0) ++ [.slice ao len cap])).toArray) w := by
  kernel_rfl

theorem wpListIn_build {F : Fence} {k : Nat} {P : Program} {ops : Array Oper} {rest : List Oper} {d : Tmp} {t ty : TypeId} {x0 x1 x2 x4 : Operand} {pos : String} {aft : Array Edge} {a : Act} {Q : Exit → Act → World → Prop} {w : World}
    (v0 v1 v2 v4 v : Value) (h0 : a.eval x0 = v0) (h1 : a.eval x1 = v1) (h2 : a.eval x2 = v2) (h4 : a.eval x4 = v4) (hr : (Instr.build t #[(0, v0), (1, v1), (2, v2), (4, v4)]).run P w = .ok v w)
    (h : wpListIn F k P ops Q rest (a.put (some d) v) w) :
    wpListIn F k P ops Q (⟨some d, .build t #[(0, x0), (1, x1), (2, x2), (4, x4)], ty, pos, aft, none⟩ :: rest) a w := by
  refine wpListIn_plain rfl fun K hK' => ?_
  unfold Oper.wpIn
  refine ⟨?_, ?_⟩
  · simp [Oper.about]
  · rw [Oper.semAt_plain F _ _ (by intro c hc'; cases hc')]
    simp [execOp, h0, h1, h2, h4, hr, Result.andThen]
    exact hK' _ _ h

def lenV : Value → Nat
  | .slice _ n _ => n
  | _ => 0

/-- What holds between two rounds of Run. -/
structure RInv (w : World) (n : Nat) (m : Int) (d : List Int) (c : Nat) (v : Value) (q : Nat) (mv : Value) (Ds : List Nat) (W : World) : Prop where
  obj : CObj W c n m (runS n m d q).sz v (runS n m d q).bt
  cb : Blk W (c + 1) 55 [.pointer (some ⟨c, 0, none⟩)]
  row : W.ownsRow 0 39 5 mv q ((runS n m d q).ms.flatMap Mg.cells)
  nr : ∀ x, mv.ownBlock = some x → c + 1 < x
  bel : Below w.heap.size w W
  dfs : ∀ D ∈ Ds, W.heap[D]? = some (.deferred (some []))
  dn : Ds.Nodup
  dge : ∀ D ∈ Ds, c + 1 < D
  cge : w.heap.size ≤ c ∧ ∀ k, v.ownBlock = some k → k < c
  vge : ∀ k, v.ownBlock = some k → w.heap.size ≤ k

theorem RInv.start {w : World} {n : Nat} {m : Int} {d : List Int} {c : Nat} {v : Value} {W : World} (hc : w.heap.size ≤ c ∧ ∀ k, v.ownBlock = some k → k < c) (hv : ∀ k, v.ownBlock = some k → w.heap.size ≤ k) (ho : CObj W c n m (onesTo n) v d) (hcb : Blk W (c + 1) 55 [.pointer (some ⟨c, 0, none⟩)]) (hb : Below w.heap.size w W) :
    RInv w n m d c v 0 (.slice none 0 0) [] W :=
  ⟨ho, hcb, World.ownsRow_nil _ _ _ _, (fun x hx => by cases hx), hb, (fun D hD => by cases hD), List.nodup_nil, (fun D hD => by cases hD), hc, hv⟩

/-- What holds while the pairs are searched. -/
structure PInv (W : World) (c A : Nat) (r : Loop) (s : Bs) (X : World) : Prop where
  xa : Blk X A 3 [.int .i64 s.a]
  xb : Blk X (A + 1) 3 [.int .i64 s.b]
  xl : Blk X (A + 1 + 1) 37 [.int .i64 s.n, .int .i64 s.d]
  xp : Blk X (A + 1 + 1 + 1) 55 [.pointer (some ⟨c, 0, none⟩)]
  df : X.heap[A + 1 + 1 + 1 + 1]? = some (.deferred (some []))
  lp : X.heap[A + 1 + 1 + 1 + 1 + 1]? = some (.loop r)
  bel : Below A W X

theorem PInv.turn {W : World} {c A : Nat} {r : Loop} {s : Bs} {X : World} (h : PInv W c A r s X) (r' : Loop) : PInv W c A r' s (X.putObj (A + 1 + 1 + 1 + 1 + 1) (.loop r')) := by
  have hlt : A + 1 + 1 + 1 + 1 + 1 < X.heap.size := (Array.getElem?_eq_some_iff.1 h.lp).1
  have hm : Mod (fun x => x = A + 1 + 1 + 1 + 1 + 1) X (X.putObj (A + 1 + 1 + 1 + 1 + 1) (.loop r')) := (Mod.refl _ _).putObj _ _ (fun _ => rfl)
  refine ⟨h.xa.mod hm (by show ¬ _ = _; omega), h.xb.mod hm (by show ¬ _ = _; omega), h.xl.mod hm (by show ¬ _ = _; omega), h.xp.mod hm (by show ¬ _ = _; omega), ?_, World.putObj_heap_same hlt, ?_⟩
  · rw [World.putObj_heap_other (by omega)]; exact h.df
  · exact h.bel.trans (hm.below (by omega) (fun x hx => by have hx' : x = A + 1 + 1 + 1 + 1 + 1 := hx; omega))

theorem PInv.below {W : World} {c A : Nat} {r : Loop} {s : Bs} {X X' : World} (h : PInv W c A r s X) (hb : Below X.heap.size X X') : PInv W c A r s X' := by
  have hlt : A + 1 + 1 + 1 + 1 + 1 < X.heap.size := (Array.getElem?_eq_some_iff.1 h.lp).1
  refine ⟨h.xa.below hb h.xa.lt, h.xb.below hb h.xb.lt, h.xl.below hb h.xl.lt, h.xp.below hb h.xp.lt, ?_, ?_, h.bel.trans (hb.mono (by omega))⟩
  · rw [hb.block _ (by omega)]; exact h.df
  · rw [hb.block _ (by omega)]; exact h.lp

theorem PInv.start {W : World} {c A : Nat} (hA : W.heap.size = A) (r : Loop) : PInv W c A r Bs.none ((((((W.alloc (.cells #[.int .i64 (-1)] 3)).alloc (.cells #[.int .i64 (-1)] 3)).alloc (.cells #[.int .i64 0, .int .i64 0] 37)).alloc (.cells #[.pointer (some ⟨c, 0, none⟩)] 55)).alloc (.deferred (some []))).alloc (.loop r)) := by
  subst hA
  refine ⟨?_, ?_, ?_, ?_, ?_, ?_, ?_⟩
  · exact (((((Blk.new W 3 [_]).alloc _).alloc _).alloc _).alloc _).alloc _
  · exact ((((Blk.new' (W.alloc _) 3 [_] (by simp)).alloc _).alloc _).alloc _).alloc _
  · exact (((Blk.new' ((W.alloc _).alloc _) 37 [_, _] (by simp)).alloc _).alloc _).alloc _
  · exact ((Blk.new' (((W.alloc _).alloc _).alloc _) 55 [_] (by simp)).alloc _).alloc _
  · rw [Below.heap_alloc _ _ _ (by simp)]
    have := World.alloc_heap_new ((((W.alloc (.cells #[.int .i64 (-1)] 3)).alloc (.cells #[.int .i64 (-1)] 3)).alloc (.cells #[.int .i64 0, .int .i64 0] 37)).alloc (.cells #[.pointer (some ⟨c, 0, none⟩)] 55)) (.deferred (some []))
    simpa using this
  · have := World.alloc_heap_new (((((W.alloc (.cells #[.int .i64 (-1)] 3)).alloc (.cells #[.int .i64 (-1)] 3)).alloc (.cells #[.int .i64 0, .int .i64 0] 37)).alloc (.cells #[.pointer (some ⟨c, 0, none⟩)] 55)).alloc (.deferred (some []))) (.loop r)
    simpa using this
  · exact ((((((Below.refl _ _).alloc (Nat.le_refl _) _).alloc (by simp) _).alloc (by simp; omega) _).alloc (by simp; omega) _).alloc (by simp; omega) _).alloc (by simp; omega) _

theorem PInv.put {W : World} {c A : Nat} {r : Loop} {s : Bs} {X : World} (h : PInv W c A r s X) (x y p q : Int) :
    PInv W c A r ⟨x, y, p, q⟩ ((((X.setCell ⟨A, 0, none⟩ (.int .i64 x)).setCell ⟨A + 1, 0, none⟩ (.int .i64 y)).setCell ⟨A + 1 + 1, 0, none⟩ (.int .i64 p)).setCell ⟨A + 1 + 1, 1, none⟩ (.int .i64 q)) := by
  have hm : Mod (fun k => k = A ∨ k = A + 1 ∨ k = A + 1 + 1) X ((((X.setCell ⟨A, 0, none⟩ (.int .i64 x)).setCell ⟨A + 1, 0, none⟩ (.int .i64 y)).setCell ⟨A + 1 + 1, 0, none⟩ (.int .i64 p)).setCell ⟨A + 1 + 1, 1, none⟩ (.int .i64 q)) :=
    ((((Mod.refl _ _).setCell ⟨A, 0, none⟩ (fun _ => .inl rfl) _).setCell ⟨A + 1, 0, none⟩ (fun _ => .inr (.inl rfl)) _).setCell ⟨A + 1 + 1, 0, none⟩ (fun _ => .inr (.inr rfl)) _).setCell ⟨A + 1 + 1, 1, none⟩ (fun _ => .inr (.inr rfl)) _
  have hlt : A + 1 + 1 + 1 + 1 + 1 < X.heap.size := (Array.getElem?_eq_some_iff.1 h.lp).1
  refine ⟨?_, ?_, ?_, h.xp.mod hm (by omega), ?_, ?_, ?_⟩
  · exact (((h.xa.set 0 _).other _ _ (by simp)).other _ _ (by simp; omega)).other _ _ (by simp; omega)
  · exact (((h.xb.other _ _ (by simp)).set 0 _).other _ _ (by simp)).other _ _ (by simp)
  · exact ((((h.xl.other _ _ (by simp; omega)).other _ _ (by simp)).set 0 _).set 1 _)
  · rw [hm.block _ (by omega) (by omega)]; exact h.df
  · rw [hm.block _ hlt (by omega)]; exact h.lp
  · refine h.bel.trans (hm.below (by omega) (fun k hk => ?_))
    rcases hk with hk | hk | hk <;> omega

theorem cell_other {w : World} {a b : Nat} {i j : Nat} {u v : Value} (h : w.cell? ⟨a, i, none⟩ = some u) (hne : a ≠ b ∨ i ≠ j) : (w.setCell ⟨b, j, none⟩ v).cell? ⟨a, i, none⟩ = some u := by
  rw [World.cell?_setCell_other _ _ _ _ (by simp only [ne_eq, Addr.mk.injEq, and_true]; omega)]; exact h

theorem less_int (x1 x2 y1 y2 : Int) (h1 : 0 ≤ x1 ∧ x1 < 9223372036854775808) (h2 : 0 < x2 ∧ x2 < 9223372036854775808) (h3 : 0 ≤ y1 ∧ y1 < 9223372036854775808) (h4 : 0 < y2 ∧ y2 < 9223372036854775808) (w : World) :
    Calls Try.prog 16 #[.agg #[.int .i64 x1, .int .i64 x2], .agg #[.int .i64 y1, .int .i64 y2]] w (RetB (.bool (lessB (x1, x2) (y1, y2))) w) := by
  obtain ⟨a, rfl⟩ := Int.eq_ofNat_of_zero_le h1.1
  obtain ⟨b, rfl⟩ := Int.eq_ofNat_of_zero_le (Int.le_of_lt h2.1)
  obtain ⟨c, rfl⟩ := Int.eq_ofNat_of_zero_le h3.1
  obtain ⟨d, rfl⟩ := Int.eq_ofNat_of_zero_le (Int.le_of_lt h4.1)
  exact less_nat a b c d (by omega) (by omega) (by omega) (by omega) (by omega) (by omega) w

theorem wpIn_round {F : Fence} {l n : Nat} {P : Program} {Q : Exit → Act → World → Prop} {o : Oper} {a : Act} {w : World} {K : Act → World → Prop} (hnd : ∀ c, o.op ≠ .defer c) (h : o.wpIn F n P a w K Q) : o.wpIn (F.inRound l) n P a w K Q := by
  unfold Oper.wpIn at *
  refine ⟨h.1, ?_⟩
  have h2 := h.2
  rw [Oper.semAt_plain F _ _ hnd] at h2
  rw [Oper.semAt_plain (F.inRound l) _ _ hnd]
  generalize (execOp a.eval o).run P w = r at *
  cases r with
  | ok x w' => cases x <;> exact h2
  | halt x w' => cases x <;> exact h2

theorem wpAnyIn_round {F : Fence} {l n : Nat} {P : Program} {ops : Array Oper} {Q : Exit → Act → World → Prop} {md : Region.Mode} (hnd : ∀ (j : Nat) (o : Oper), ops[j]? = some o → ∀ c, o.op ≠ .defer c) :
    ∀ (fuel : Nat) (listed : Array Bool) (a : Act) (w : World), wpAnyIn F n P md ops Q fuel listed a w → wpAnyIn (F.inRound l) n P md ops Q fuel listed a w
  | 0, listed, a, w, h => h
  | fuel + 1, listed, a, w, h => by
    refine ⟨h.1, fun i hi => ?_⟩
    have h1 := h.2 i hi
    unfold wpOpIn at *
    cases ho : ops[i]? with
    | none =>
      simp only [ho] at h1 ⊢
      exact wpAnyIn_round hnd fuel _ _ _ h1
    | some o =>
      simp only [ho] at h1 ⊢
      split
      · rename_i hw
        simp only [hw, if_true] at h1
        exact wpIn_round (hnd i o ho) (Oper.wpIn_mono (fun a' w' hh => wpAnyIn_round hnd fuel _ _ _ hh) h1)
      · rename_i hw
        simp only [hw] at h1
        exact ⟨h1.1, wpAnyIn_round hnd fuel _ _ _ h1.2⟩

def noDefer (l : List Oper) : Bool := l.all fun o => match o.op with | .defer _ => false | _ => true

theorem noDefer_of {l : List Oper} (h : noDefer l = true) : ∀ (j : Nat) (o : Oper), l.toArray[j]? = some o → ∀ c, o.op ≠ .defer c := by
  intro j o ho c e
  have hm : o ∈ l := List.mem_of_getElem? (by simpa using ho)
  have := List.all_eq_true.1 h o hm
  rw [e] at this
  cases this

theorem wpIn_region_round {F : Fence} {l n : Nat} {P : Program} {Q : Exit → Act → World → Prop} {id : Nat} {os : List Oper} {a : Act} {w : World} (hm : P.follows .mixedOrders = true) (hnd : noDefer os = true)
    (h : wpAnyIn F n P .any os.toArray Q os.toArray.size (Array.replicate os.toArray.size false) a w.drew) : (Code.region id os.toArray true).wpIn (F.inRound l) n P Q a w :=
  wpIn_region_any hm (wpAnyIn_round (noDefer_of hnd) _ _ _ _ h)

theorem runS_succ {n : Nat} {m : Int} {d : List Int} {q x y : Nat} {p r : Int} (hs : bestTo n m (runS n m d q).sz (runS n m d q).bt n = ⟨x, y, p, r⟩) :
    runS n m d (q + 1) = ⟨szU (runS n m d q).sz x y, mixTo n m (runS n m d q).sz x y (runS n m d q).bt n, (runS n m d q).ms ++ [⟨x, y, lowN p r, lowD p r, (runS n m d q).sz.getD x 0 + (runS n m d q).sz.getD y 0⟩]⟩ := by
  simp only [runS, hs, mgOf, Int.toNat_natCast]

theorem unite_ok {m : Int} (hm : m = 1 ∨ m = 2 ∨ m = 3) (w : World) (c n : Nat) (sz : List Int) (v : Value) (bt : List Int) (h : CObj w c n m sz v bt) (hn : n ≤ 128) (hl : bt.length = n * n) (a b : Nat) (ha : a < n) (hb : b < n) (hab : a ≠ b)
    (hsz : ∀ i, 0 ≤ sz.getD i 0 ∧ sz.getD i 0 ≤ 128) (hN : 0 ≤ at2 n bt a b) (hN2 : at2 n bt a b < 9223372036854775808) (hD : 0 < dD m sz a b) (hD2 : dD m sz a b ≤ 16384) :
    Calls Try.prog 17 #[.pointer (some ⟨c, 0, none⟩), .int .i64 a, .int .i64 b] w (UPost w c n m sz v bt a b) := by
  rcases hm with rfl | rfl | rfl
  · exact unite1 w c n sz v bt h hn hl a b ha hb hab hsz hN hN2 hD hD2
  · exact unite2 w c n sz v bt h hn hl a b ha hb hab hsz hN hN2 hD hD2
  · exact unite3 w c n sz v bt h hn hl a b ha hb hab hsz hN hN2 hD hD2

theorem owns_ne_other {w : World} {e : TypeId} {size n : Nat} {v : Value} {xs : List Value} (h : w.ownsRow 0 e size v n xs) {D : Nat} {o : Obj} (hD : w.heap[D]? = some o) (ho : o.isCells = false) : v.ownBlock ≠ some D := fun e => by
  rcases h.2 with ⟨rfl, _⟩ | ⟨g', cap, cur, rfl, _, hg', _⟩
  · cases e
  · have : g' = D := by simpa [Value.ownBlock] using e
    subst this
    rw [hD] at hg'
    cases hg'
    cases ho

theorem RInv.step {w : World} {n : Nat} {m : Int} {d : List Int} {c : Nat} {v : Value} {q : Nat} {mv : Value} {Ds : List Nat} {W : World} (h : RInv w n m d c v q mv Ds W) {A : Nat} (hA : W.heap.size = A) {r : Loop} {s : Bs} {W3 : World} (hp : PInv W c A r s W3)
    {x y : Nat} {p p2 : Int} (hs : bestTo n m (runS n m d q).sz (runS n m d q).bt n = ⟨x, y, p, p2⟩) {w7 : World} (ho : CObj w7 c n m (szU (runS n m d q).sz x y) v (mixTo n m (runS n m d q).sz x y (runS n m d q).bt n)) (hm : Mod (fun k => k = c ∨ v.ownBlock = some k) W3 w7)
    {w8 : World} (h8 : Below w7.heap.size w7 w8) {w9 : World} {v' : Value}
    (hrow : w9.ownsRow 0 39 5 v' (q + 1) ((runS n m d q).ms.flatMap Mg.cells ++ [.int .i64 x, .int .i64 y, .int .i64 (lowN p p2), .int .i64 (lowD p p2), .int .i64 ((runS n m d q).sz.getD x 0 + (runS n m d q).sz.getD y 0)])) (hg : w8.grownBy w9 mv.ownBlock) (hn : ∀ k, v'.ownBlock = some k → mv.ownBlock = some k ∨ w8.heap.size ≤ k) :
    RInv w n m d c v (q + 1) v' ((A + 1 + 1 + 1 + 1) :: Ds) w9 := by
  have hc := h.cge
  have hlc : c + 1 < A := by rw [← hA]; exact h.cb.lt
  have hl3 : A + 1 + 1 + 1 + 1 + 1 < W3.heap.size := (Array.getElem?_eq_some_iff.1 hp.lp).1
  have hl7 := hm.size
  have hl8 := h8.size
  have m79 : Mod (fun k => mv.ownBlock = some k) w7 w9 := (Mod.of_below (F := fun k => mv.ownBlock = some k) h8).grown hg (fun k e _ => e)
  have hmv : ∀ k, mv.ownBlock = some k → c + 1 < k ∧ k < A := fun k hk => ⟨h.nr k hk, by rw [← hA]; exact (h.row.lt k hk).2⟩
  have keepD : ∀ D, c + 1 < D → W3.heap[D]? = some (.deferred (some [])) → mv.ownBlock ≠ some D → w9.heap[D]? = some (.deferred (some [])) := fun D hD h3 hne => by
    have hlt := (Array.getElem?_eq_some_iff.1 h3).1
    rw [m79.block D (by omega) hne, hm.block D hlt (by
      rintro (e | e)
      · omega
      · have := hc.2 D e; omega)]
    exact h3
  have rs := runS_succ hs
  refine ⟨?_, ?_, ?_, fun k hk => ?_, ?_, fun D hD => ?_, ?_, fun D hD => ?_, hc, h.vge⟩
  · rw [rs]
    exact ho.mod m79 (fun e => by have := hmv c e; omega) (fun k hk e => by have h1 := hmv k e; have h2 := hc.2 k hk; omega)
  · have h1 := (h.cb.below hp.bel hlc).mod hm (by
      rintro (e | e)
      · omega
      · have := hc.2 (c + 1) e; omega)
    exact h1.mod m79 (fun e => by have := hmv (c + 1) e; omega)
  · rw [rs]
    simp only [List.flatMap_append, List.flatMap_cons, List.flatMap_nil, List.append_nil]
    exact hrow
  · rcases hn k hk with e | e
    · exact h.nr k e
    · omega
  · have b1 := h.bel.size
    refine (h.bel.trans (hp.bel.mono (by omega))).trans ?_
    refine (hm.below (by omega) ?_).trans (m79.below (by omega) (fun k e => by have := hmv k e; omega))
    rintro k (e | e)
    · have := hc.1; omega
    · exact h.vge k e
  · rcases List.mem_cons.1 hD with e | e
    · subst e
      exact keepD _ (by omega) hp.df (fun e => by have := hmv _ e; omega)
    · have hd := h.dfs D e
      have hlt : D < A := by rw [← hA]; exact (Array.getElem?_eq_some_iff.1 hd).1
      refine keepD D (h.dge D e) (by rw [hp.bel.block D hlt]; exact hd) (owns_ne_other h.row hd rfl)
  · refine List.nodup_cons.2 ⟨fun hh => ?_, h.dn⟩
    have hlt : A + 1 + 1 + 1 + 1 < W.heap.size := (Array.getElem?_eq_some_iff.1 (h.dfs _ hh)).1
    omega
  · rcases List.mem_cons.1 hD with e | e
    · omega
    · exact h.dge D e

theorem leaves_marks {F : Fence} {n : Nat} {P : Program} {fn : Func} {tmps : Array Value} {R : Ending → World → Prop} : ∀ (Ds : List Nat) (W : World), Ds.Nodup → (∀ D ∈ Ds, W.heap[D]? = some (.deferred (some []))) →
    (∀ W', Mod (fun k => k ∈ Ds) W W' → LeavesInM F n P fn tmps R [] .returning W') → LeavesInM F n P fn tmps R (Ds.map fun D => { target := .collected D, args := #[] }) .returning W
  | [], W, _, _, h => h W (Mod.refl _ _)
  | D :: Ds, W, hn, hd, h => by
    refine ⟨by simp, .inl ⟨_, _, rfl, run_takeDeferred (hd D (by simp)), ?_⟩⟩
    have hm : Mod (fun k => k = D) W (W.putObj D (.deferred none)) := (Mod.refl _ _).putObj _ _ (fun _ => rfl)
    have hn' := List.nodup_cons.1 hn
    refine leaves_marks Ds _ hn'.2 (fun D' hD' => ?_) (fun W' hW => h W' ?_)
    · rw [World.putObj_heap_other (show D' ≠ D from fun e => hn'.1 (by rw [← e]; exact hD'))]
      exact hd D' (by simp [hD'])
    · refine (hm.mono (G := fun k => k ∈ D :: Ds) (fun x _ e => by rw [show x = D from e]; simp)).trans hW (fun x _ hx => by simp [show x ∈ Ds from hx])

theorem Try.infoMerge : (Try.prog.info? 39).map (fun i => (i.zero, i.size, i.bytes)) = some (some (.agg #[.int .i64 0, .int .i64 0, .int .i64 0, .int .i64 0, .int .i64 0]), 5, 40) := by kernel_rfl

theorem upd_none (a b : Nat) (f : Int × Int) : Bs.none.upd a b f = ⟨a, b, f.1, f.2⟩ := by
  unfold Bs.upd; rw [if_pos (.inl (by decide))]

theorem upd_less {s : Bs} {a b : Nat} {f : Int × Int} (h : lessB f (s.n, s.d) = true) : s.upd a b f = ⟨a, b, f.1, f.2⟩ := by
  unfold Bs.upd; rw [if_pos (.inr h)]

theorem upd_not {s : Bs} {a b : Nat} {f : Int × Int} (h0 : ¬ s.a < 0) (h : lessB f (s.n, s.d) = false) : s.upd a b f = s := by
  unfold Bs.upd; rw [if_neg (by rintro (hh | hh); exact h0 hh; rw [h] at hh; cases hh)]

structure RunPost (n : Nat) (m : Int) (d : List Int) (w : World) (e : Ending) (w' : World) : Prop where
  out : ∃ v, e = .returned (.tuple #[v, .int .i64 0]) ∧ w'.ownsRow 0 39 5 v (n - 1) ((runL n m d).flatMap Mg.cells) ∧ Below w.heap.size w w' ∧ ∀ k, v.ownBlock = some k → w.heap.size ≤ k

theorem mixF_func {m : Int} (hm : m = 1 ∨ m = 2 ∨ m = 3) : ∃ k, mixF m = .func (.func k) #[] #[] := by
  rcases hm with rfl | rfl | rfl
  · exact ⟨_, rfl⟩
  · exact ⟨_, rfl⟩
  · exact ⟨_, rfl⟩

set_option maxHeartbeats 8000000 in
set_option maxRecDepth 100000 in
theorem run_ok (w : World) (n : Nat) (m : Int) (hm : m = 1 ∨ m = 2 ∨ m = 3) (ao : Option Addr) (len cap b off : Nat) (d : List Int) (hz : InRow .i64 w ao len b off d) (hc : ao = none → cap = 0) (hl : len = n * n) (hn : n ≤ 128) (hok : checkL n d = 0) :
    Calls Try.prog 6 #[.int .i64 n, .slice ao len cap, .int .i64 m] w (RunPost n m d w) := by
  have HD := Lib.hid (DOk.of_check hok)
  have HL := Lib.hid hl
  have HOK := Lib.hid hok
  have HZ := Lib.hid hz
  have HC := Lib.hid hc
  have HM := Lib.hid hm
  obtain ⟨fk, hfk⟩ := mixF_func hm
  have HF := Lib.hid hfk
  have hlb : len ≤ 16384 := by rw [hl]; exact Nat.mul_le_mul hn hn
  clear hz hc hl hok hm hfk
  refine (callsIn_wide (n := 3)).1 ?_
  refine callsIn_of_wp_marks Try.func6 rfl trivial ?_ rfl
  simp only [Try.ntmps6, List.size_toArray, List.length_cons, List.length_nil, Nat.reduceAdd, Nat.reduceSub, Array.replicate_succ, Array.replicate_zero, List.push_toArray, List.append_toArray, List.nil_append, List.cons_append]
  gi_wp2_with fail
  refine ⟨trivial, CallsIn.mono (callsIn_wide.2 (mixer_ok m w)) ?_⟩
  rintro e w1 ⟨rfl, rfl⟩
  rw [HF.out]
  have q1 : (binOp BinOp.eql 52 (Value.func (Fn.func fk) #[] #[]) Value.nilFunc).run Try.prog w = .ok (.bool false) w := rfl
  gi_wp2_with fail
  clear q1
  refine ⟨trivial, CallsIn.mono (callsIn_wide.2 (check_good n hn ao len cap b off d w HZ.out HL.out)) ?_⟩
  rintro e w1 ⟨rfl, hb1⟩
  rw [HOK.out]
  have HB1 := Lib.hid hb1
  obtain ⟨v2, w2, hr2, ho2, hg2, hn2⟩ := run_copyIn w1 ao len cap b off d (HZ.out.below hb1) HC.out (by omega)
  have HR2 := Lib.hid hr2
  have HO2 := Lib.hid ho2
  have HG2 := Lib.hid hg2
  have HN2 := Lib.hid hn2
  clear hb1 hr2 ho2 hg2 hn2
  have HM2 : Hid (Below w.heap.size w w2) := HB1.out.trans (grown_below HG2.out (fun k hk => by cases hk) HB1.out.size)
  have HV2 : Hid (∀ k, v2.ownBlock = some k → w.heap.size ≤ k) := fun k hk => Nat.le_trans HB1.out.size (HN2.out k hk)
  obtain ⟨ao2, cap2, rfl⟩ := owns_slice HO2.out
  clear HG2 HN2 HB1
  obtain ⟨u, hu, hbu⟩ := run_buildC' n m fk ao2 len cap2
  have HU := Lib.hid hu
  have HBU := Lib.hid hbu
  clear hu hbu
  gi_wp2_with (first | (gi_at_builtin; with_reducible refine wpListIn_run (.slice none 0 0) (.slice ao len cap) (.slice ao2 len cap2) w2 rfl rfl HR2.out ?_) | (with_reducible refine wpListIn_build (.int .i64 n) (.int .i64 m) (.func (.func fk) #[] #[]) (.slice ao2 len cap2) _ rfl rfl rfl rfl (HBU.out _) ?_))
  clear HR2
  generalize hw3 : World.alloc (World.alloc w2 _) _ = w3
  generalize hc : w2.heap.size = c at *
  have B1 : Hid (CObj w3 c n m (onesTo 0) (.slice ao2 len cap2) d ∧ Blk w3 (c + 1) 55 [.pointer (some ⟨c, 0, none⟩)] ∧ Below w.heap.size w w3) := by
    have hal : Below w2.heap.size w2 w3 := by rw [← hw3]; exact ((Below.refl _ _).alloc (Nat.le_refl _) _).alloc (by simp) _
    refine ⟨⟨?_, ?_, ?_, onesTo_length (by omega)⟩, ?_, HM2.out.trans (hal.mono HM2.out.size)⟩
    · rw [← hw3, ← hc]
      have e : u = clRow n m (onesTo 0) (.slice ao2 len cap2) := by
        rw [HU.out]; unfold clRow onesTo; rw [HF.out]; simp
      rw [e]
      exact (Blk.new w2 _ _).alloc _
    · have := owns_mod HO2.out (Mod.of_below (F := fun _ => False) hal) (fun _ _ h => h)
      rw [HZ.out.size]
      exact this
    · intro e
      have := (HO2.out.lt c e).2
      omega
    · rw [← hw3]
      exact Blk.new' _ _ _ (by simp [hc])
  have HCS : Hid (w.heap.size ≤ c ∧ ∀ k, (Value.slice ao2 len cap2).ownBlock = some k → k < c) := ⟨by have := HM2.out.size; omega, fun k hk => by have := (HO2.out.lt k hk).2; omega⟩
  clear hw3 hc HU HBU HO2 HM2
  gi_loopw [37] (fun s wr => ∃ k : Nat, k ≤ n ∧ s = .int .i64 k ∧ CObj wr c n m (onesTo k) (.slice ao2 len cap2) d ∧ Blk wr (c + 1) 55 [.pointer (some ⟨c, 0, none⟩)] ∧ Below w.heap.size w wr) (fun s _ => n - (intOf s).toNat)
  case atStart => exact ⟨0, Nat.zero_le _, rfl, B1.out⟩
  case round =>
    obtain ⟨k, hk, rfl, ho, hcb, hbl⟩ := hrel
    have HO := Lib.hid ho
    have HCB := Lib.hid hcb
    have HBL := Lib.hid hbl
    clear ho hbl
    have c1 := hcb.cell (i := 0) rfl
    clear hcb
    by_cases hkn : k < n
    · have s1 := HO.out.cs (i := k) (by omega)
      have f1 := HO.out.blk.free (3 + k)
      have i128 : (k : Int) < 128 := by omega
      gi_wp2_with fail
      go_roundw
      case rel =>
        refine ⟨k + 1, by omega, by go_num, ?_, HCB.out.other _ _ (by simp), ?_⟩
        · rw [← onesTo_step (by omega)]
          exact HO.out.setSz k (by omega) 1
        · exact HBL.out.trans (Mod.below (F := fun x => x = c) (Mod.setCell (Mod.refl (fun x => x = c) _) ⟨c, 3 + k, none⟩ (fun _ => rfl) _) HBL.out.size (fun x hx => by have := HCS.out.1; have hx' : x = c := hx; omega))
      case measure => simp [intOf]; omega
    · obtain rfl : n = k := by omega
      gi_wp2_with fail
      -- MAIN
      have HB1 : Hid (RInv w n m d c (.slice ao2 len cap2) 0 (.slice none 0 0) [] wr) := RInv.start HCS.out HV2.out HO.out HCB.out HBL.out
      clear HO HCB HBL c1 B1
      refine wpIn_loop (fun a' W => ∃ (q : Nat) (mv : Value) (Ds : List Nat) (y13 y14 y15 y16 y17 y18 y46 y47 y48 y49 y50 y51 y52 y53 y54 y55 y56 y57 y58 y59 y60 y61 y62 y63 y64 y65 y66 y67 y68 y69 y70 y71 y72 y73 y74 y75 y76 y77 : Value), q ≤ n - 1 ∧ RInv w n m d c (.slice ao2 len cap2) q mv Ds W ∧ a' = { tmps := #[.int .i64 n, .slice ao len cap, .int .i64 m, undef, undef, undef, .slice none 0 0, .int .i64 0, .func (.func fk) #[] #[], .int .i64 0, .pointer (some ⟨c + 1, 0, none⟩), u11, mv, y13, y14, y15, y16, y17, y18, .int .i64 m, .func (.func fk) #[] #[], .func (.func fk) #[] #[], .bool false, .int .i64 n, .slice ao len cap, .int .i64 0, .int .i64 0, .bool false, undef, .int .i64 n, .int .i64 m, .func (.func fk) #[] #[], .slice ao len cap, .slice ao2 len cap2, .agg u.toArray, .pointer (some ⟨c, 0, none⟩), .int .i64 n, .int .i64 n, .bool false, u39, u40, u41, u42, u43, u44, u45, y46, y47, y48, y49, y50, y51, y52, y53, y54, y55, y56, y57, y58, y59, y60, y61, y62, y63, y64, y65, y66, y67, y68, y69, y70, y71, y72, y73, y74, y75, y76, y77, undef], defers := Ds.map fun D => { target := .collected D, args := #[] } }) (fun a' _ => n - lenV (a'.tmps.getD 12 undef)) ?_ ?_
      · exact ⟨0, .slice none 0 0, [], _, _, _, _, _, _, _, _, _, _, _, _, _, _, _, _, _, _, _, _, _, _, _, _, _, _, _, _, _, _, _, _, _, _, _, _, _, _, Nat.zero_le _, HB1.out, rfl⟩
      · rintro _ W ⟨q, mv, Ds, y13, y14, y15, y16, y17, y18, y46, y47, y48, y49, y50, y51, y52, y53, y54, y55, y56, y57, y58, y59, y60, y61, y62, y63, y64, y65, y66, y67, y68, y69, y70, y71, y72, y73, y74, y75, y76, y77, hq, hI, rfl⟩
        have HI := Lib.hid hI
        clear HB1 hI wr
        obtain ⟨mo, mc, hmv⟩ := owns_slice HI.out.row
        subst hmv
        have c1 := HI.out.cb.cell (i := 0) rfl
        obtain ⟨A, hA⟩ : ∃ A, W.heap.size = A := ⟨_, rfl⟩
        by_cases hqn : q < n - 1
        · have t1 : decide ((q : Int) < (n : Int) - 1) = true := by simp; omega
          have c2 : (((W.alloc (.cells #[.int .i64 (-1)] 3)).alloc (.cells #[.int .i64 (-1)] 3)).alloc (.cells #[.int .i64 0, .int .i64 0] 37)).cell? ⟨c + 1, 0, none⟩ = some (.pointer (some ⟨c, 0, none⟩)) :=
            (((HI.out.cb.alloc _).alloc _).alloc _).cell (i := 0) rfl
          gi_wp2_with fail
          refine ⟨trivial, CallsIn.mono (callsIn_wide.2 (pairs_any c _)) ?_⟩
          rintro e w1 ⟨rfl, rfl⟩
          gi_wp2_with fail
          have HG : Hid (Good n m (runS n m d q).sz (runS n m d q).bt) := (runS_inv HD.out HM.out q (.inl (by omega))).good HD.out
          have HSB := Lib.hid ((runS_inv HD.out HM.out q (.inl (by omega))).best (by omega))
          generalize hsz : (runS n m d q).sz = sz at HG HSB
          generalize hbt : (runS n m d q).bt = bt at HG HSB
          have HO : Hid (CObj W c n m sz (.slice ao2 len cap2) bt) := by have := HI.out.obj; rw [hsz, hbt] at this; exact this
          have HSZ := Lib.hid hsz
          have HBT := Lib.hid hbt
          clear hsz hbt c1 c2
          refine wp_range (gf := 35) (lb := #[.pointer (some ⟨A + 1 + 1 + 1, 0, none⟩)]) rfl (enters_of Try.func35 (by kernel_rfl) rfl)
            (fun W2 => ∃ r, PInv W c A r (bestTo n m sz bt n) W2) ?call ?done
          case call =>
            intro fn
            simp only [World.size_alloc, List.append_toArray, List.cons_append, List.nil_append, hA]
            refine CallsIn.mono (pairs1_in 2 c n m sz (.slice ao2 len cap2) bt (A + 1 + 1 + 1) (A + 1 + 1 + 1 + 1 + 1) hn (fun s X => PInv W c A _ s X ∧ BOk n m sz bt s) ?_ _ ⟨PInv.start hA _, .inl rfl⟩ ?_) ?_
            · rintro s X ⟨hp, _⟩
              exact ⟨hp.xp.cell (i := 0) rfl, HO.out.below (by rw [hA]; exact hp.bel)⟩
            · rintro x y s X hxy hyn hx0 hy0 ⟨hp, hbo⟩
              refine yieldAt_of hp.lp rfl
                { tmps := #[.int .i64 n, .slice ao len cap, .int .i64 m, undef, undef, undef, .slice none 0 0, .int .i64 0, .func (.func fk) #[] #[], .int .i64 0, .pointer (some ⟨c + 1, 0, none⟩), u11, .slice mo q mc, .pointer (some ⟨A, 0, none⟩), .pointer (some ⟨A + 1, 0, none⟩), .pointer (some ⟨A + 1 + 1, 0, none⟩), .int .i64 (x : Nat), .int .i64 (y : Nat), y18, .int .i64 m, .func (.func fk) #[] #[], .func (.func fk) #[] #[], .bool false, .int .i64 n, .slice ao len cap, .int .i64 0, .int .i64 0, .bool false, undef, .int .i64 n, .int .i64 m, .func (.func fk) #[] #[], .slice ao len cap, .slice ao2 len cap2, .agg u.toArray, .pointer (some ⟨c, 0, none⟩), .int .i64 n, .int .i64 n, .bool false, u39, u40, u41, u42, u43, u44, u45, .slice mo q mc, .int .i64 q, .int .i64 n, .int .i64 ((n : Int) - 1), .bool true, .pointer (some ⟨c, 0, none⟩), .func (.func 35) #[] #[.pointer (some ⟨A + 1 + 1 + 1, 0, none⟩)], .int .i64 (x : Nat), .int .i64 (y : Nat), y55, y56, y57, y58, y59, y60, y61, y62, y63, y64, y65, y66, y67, y68, y69, y70, y71, y72, y73, y74, y75, y76, y77, undef], defers := [] } ?_ ?_
              · intro K hK
                gi_wp2
                exact hK
              · intro r rb Wb hr hWb
                rw [hr] at hp ⊢
                have hp2 := hp.turn rb
                rw [← hWb] at hp2
                clear hp hWb hr
                have HP := Lib.hid hp2
                have HBO := Lib.hid hbo
                have HPL : Hid (PL n sz x y) := ⟨hxy, hyn, hx0, hy0⟩
                have c1 : Wb.cell? ⟨c + 1, 0, none⟩ = some (.pointer (some ⟨c, 0, none⟩)) := (HI.out.cb.below hp2.bel (by rw [← hA]; exact HI.out.cb.lt)).cell (i := 0) rfl
                clear hp2 hbo hx0 hy0
                gi_wp2_with fail
                have hbA : Below W.heap.size W Wb := by rw [hA]; exact HP.out.bel
                refine ⟨trivial, CallsIn.inRound _ (CallsIn.mono (callsIn_wide.2 (distance_ok Wb c n m sz (.slice ao2 len cap2) bt (HO.out.below hbA) hn HG.out.btl x y (by omega) hyn HG.out.szb)) ?_)⟩
                rintro e w4 ⟨rfl, hb4⟩
                have HP4 := Lib.hid (HP.out.below hb4)
                have HNUM := HG.out.num x y hxy hyn HPL.out.2.2.1 HPL.out.2.2.2
                have HU1 : Hid (distL n m sz bt x y = (at2 n bt x y, dD m sz x y)) := rfl
                have hnum2 : 0 ≤ at2 n bt x y ∧ at2 n bt x y ≤ 36028797018963968 ∧ 0 < dD m sz x y ∧ dD m sz x y ≤ 16384 := HNUM
                clear HNUM hb4 hbA HP c1
                generalize at2 n bt x y = fn1 at *
                generalize dD m sz x y = fd1 at *
                have hal := (Below.refl w4.heap.size w4).alloc (Nat.le_refl _) (.cells #[.int .i64 fn1, .int .i64 fd1] 37)
                have HP5 := Lib.hid (HP4.out.below hal)
                have HZ5 := Lib.hid (Blk.new w4 37 [.int .i64 fn1, .int .i64 fd1])
                have d1 := HP5.out.xa.cell (i := 0) rfl
                have d2 := HP5.out.xb.cell (i := 0) rfl
                have d3 := HP5.out.xl.cell (i := 0) rfl
                have d4 := HP5.out.xl.cell (i := 1) rfl
                have d5 := HZ5.out.cell (i := 0) rfl
                have d6 := HZ5.out.cell (i := 1) rfl
                have g1 := HP5.out.xa.free 0
                have g2 := HP5.out.xb.free 0
                have g3 := HP5.out.xl.free 0
                have g4 := HP5.out.xl.free 1
                have HZA : Hid (A + 1 + 1 < w4.heap.size) := HP4.out.xl.lt
                clear hal HP4
                rcases HBO.out with hs | ⟨x0, y0, hpl0, hs⟩
                · subst hs
                  have t2 : decide ((-1 : Int) < 0) = true := by decide
                  gi_wp2_with fail
                  refine ⟨trivial, ?_⟩
                  gi_wp2_with fail
                  have hzA : A + 1 + 1 < w4.heap.size := HZA.out
                  generalize hw5 : w4.alloc _ = w5 at *
                  generalize w4.heap.size = Z at *
                  clear hw5
                  have nz1 : ¬ (Z = A) := by omega
                  have nz2 : ¬ (Z = A + 1) := by omega
                  clear hzA
                  have FIN := Lib.hid (HP5.out.put x y fn1 fd1)
                  clear HP5 HZ5
                  refine wpIn_region_round (by kernel_rfl) (by kernel_rfl) ?_
                  refine wpAnyIn_take (i := 0) (v := .int .i64 x) rfl rfl (by kernel_rfl) (by kernel_rfl) (by kernel_rfl) (fun _ _ _ h => h) ⟨Or.inl ⟨by rfl, fun w => by go_simp⟩, fun _ => rfl⟩ ?_
                  refine wpAnyIn_take (i := 1) (v := .int .i64 y) rfl rfl (by kernel_rfl) (by kernel_rfl) (by kernel_rfl) (fun _ _ _ h => h) ⟨Or.inl ⟨by rfl, fun w => by go_simp⟩, fun _ => rfl⟩ ?_
                  refine wpAnyIn_ready (rs := [2, 3]) (by kernel_rfl) (by simp) (AllReadyIn.cons rfl (fun K hK => ?_) (AllReadyIn.cons rfl (fun K hK => ?_) AllReadyIn.nil))
                  · go_simp
                    refine hK _ _ ?_
                    clear hK K
                    refine wpAnyIn_ready (rs := [3]) (by kernel_rfl) (by simp) (AllReadyIn.cons rfl (fun K hK => ?_) AllReadyIn.nil)
                    go_simp
                    refine hK _ _ ?_
                    clear hK K
                    refine wpAnyIn_ready (rs := [4]) (by kernel_rfl) (by simp) (AllReadyIn.cons rfl (fun K hK => ?_) AllReadyIn.nil)
                    go_simp
                    refine hK _ _ ?_
                    clear hK K
                    refine wpAnyIn_ready (rs := [5]) (by kernel_rfl) (by simp) (AllReadyIn.cons rfl (fun K hK => ?_) AllReadyIn.nil)
                    go_simp
                    refine hK _ _ ?_
                    clear hK K
                    refine wpAnyIn_done (by kernel_rfl) ?_ _
                    gi_wp2_with fail
                    exact ⟨(FIN.out.below ((Below.refl _ _).drew)).lp, rfl, by rw [HU1.out, upd_none]; exact (FIN.out.below ((Below.refl _ _).drew)).turn r, HBO.out.upd HPL.out⟩
                  · go_simp
                    refine hK _ _ ?_
                    clear hK K
                    refine wpAnyIn_ready (rs := [2, 4]) (by kernel_rfl) (by simp) (AllReadyIn.cons rfl (fun K hK => ?_) (AllReadyIn.cons rfl (fun K hK => ?_) AllReadyIn.nil))
                    · go_simp
                      refine hK _ _ ?_
                      clear hK K
                      refine wpAnyIn_ready (rs := [4]) (by kernel_rfl) (by simp) (AllReadyIn.cons rfl (fun K hK => ?_) AllReadyIn.nil)
                      go_simp
                      refine hK _ _ ?_
                      clear hK K
                      refine wpAnyIn_ready (rs := [5]) (by kernel_rfl) (by simp) (AllReadyIn.cons rfl (fun K hK => ?_) AllReadyIn.nil)
                      go_simp
                      refine hK _ _ ?_
                      clear hK K
                      refine wpAnyIn_done (by kernel_rfl) ?_ _
                      gi_wp2_with fail
                      exact ⟨(FIN.out.below ((Below.refl _ _).drew)).lp, rfl, by rw [HU1.out, upd_none]; exact (FIN.out.below ((Below.refl _ _).drew)).turn r, HBO.out.upd HPL.out⟩
                    · go_simp
                      refine hK _ _ ?_
                      clear hK K
                      refine wpAnyIn_ready (rs := [2]) (by kernel_rfl) (by simp) (AllReadyIn.cons rfl (fun K hK => ?_) AllReadyIn.nil)
                      go_simp
                      refine hK _ _ ?_
                      clear hK K
                      refine wpAnyIn_ready (rs := [5]) (by kernel_rfl) (by simp) (AllReadyIn.cons rfl (fun K hK => ?_) AllReadyIn.nil)
                      go_simp
                      refine hK _ _ ?_
                      clear hK K
                      refine wpAnyIn_done (by kernel_rfl) ?_ _
                      gi_wp2_with fail
                      exact ⟨(FIN.out.below ((Below.refl _ _).drew)).lp, rfl, by rw [HU1.out, upd_none]; exact (FIN.out.below ((Below.refl _ _).drew)).turn r, HBO.out.upd HPL.out⟩
                · subst hs
                  have t2 : decide ((x0 : Int) < 0) = false := by simp
                  have HN0 : 0 ≤ at2 n bt x0 y0 ∧ at2 n bt x0 y0 ≤ 36028797018963968 ∧ 0 < dD m sz x0 y0 ∧ dD m sz x0 y0 ≤ 16384 := HG.out.num x0 y0 hpl0.1 hpl0.2.1 hpl0.2.2.1 hpl0.2.2.2
                  have HU0 : Hid (distL n m sz bt x0 y0 = (at2 n bt x0 y0, dD m sz x0 y0)) := rfl
                  rw [HU0.out] at HP5 d3 d4
                  simp only [] at HP5 d3 d4
                  generalize at2 n bt x0 y0 = fn0 at *
                  generalize dD m sz x0 y0 = fd0 at *
                  gi_wp2_with fail
                  refine ⟨trivial, CallsIn.inRound _ (CallsIn.mono (callsIn_wide.2 (less_int fn1 fd1 fn0 fd0 (by omega) (by omega) (by omega) (by omega) _)) ?_)⟩
                  rintro e w6 ⟨rfl, hb6⟩
                  have HP6 := Lib.hid (HP5.out.below hb6)
                  have HZ6 := Lib.hid (HZ5.out.below hb6 HZ5.out.lt)
                  have hzA : A + 1 + 1 < w4.heap.size := HZA.out
                  clear hb6 HP5 HZ5 d1 d2 d3 d4 d5 d6 g1 g2 g3 g4
                  generalize w4.heap.size = Z at *
                  have nz1 : ¬ (Z = A) := by omega
                  have nz2 : ¬ (Z = A + 1) := by omega
                  clear hzA
                  obtain ⟨lb, HLB⟩ : ∃ lb, Hid (lessB (fn1, fd1) (fn0, fd0) = lb) := ⟨_, rfl⟩
                  rw [HLB.out]
                  cases lb with
                  | false =>
                    gi_wp2_with fail
                    refine ⟨HP6.out.lp, rfl, ?_, ?_⟩
                    · rw [HU1.out, HU0.out, upd_not (s := ⟨x0, y0, fn0, fd0⟩) (by simp) HLB.out]; exact HP6.out.turn r
                    · exact HBO.out.upd HPL.out
                  | true =>
                    have d1 := HP6.out.xa.cell (i := 0) rfl
                    have d2 := HP6.out.xb.cell (i := 0) rfl
                    have d3 := HP6.out.xl.cell (i := 0) rfl
                    have d4 := HP6.out.xl.cell (i := 1) rfl
                    have d5 := HZ6.out.cell (i := 0) rfl
                    have d6 := HZ6.out.cell (i := 1) rfl
                    have g1 := HP6.out.xa.free 0
                    have g2 := HP6.out.xb.free 0
                    have g3 := HP6.out.xl.free 0
                    have g4 := HP6.out.xl.free 1
                    have FIN := Lib.hid (HP6.out.put x y fn1 fd1)
                    clear HP6 HZ6
                    gi_wp2_with fail
                    refine wpIn_region_round (by kernel_rfl) (by kernel_rfl) ?_
                    refine wpAnyIn_take (i := 0) (v := .int .i64 x) rfl rfl (by kernel_rfl) (by kernel_rfl) (by kernel_rfl) (fun _ _ _ h => h) ⟨Or.inl ⟨by rfl, fun w => by go_simp⟩, fun _ => rfl⟩ ?_
                    refine wpAnyIn_take (i := 1) (v := .int .i64 y) rfl rfl (by kernel_rfl) (by kernel_rfl) (by kernel_rfl) (fun _ _ _ h => h) ⟨Or.inl ⟨by rfl, fun w => by go_simp⟩, fun _ => rfl⟩ ?_
                    refine wpAnyIn_ready (rs := [2, 3]) (by kernel_rfl) (by simp) (AllReadyIn.cons rfl (fun K hK => ?_) (AllReadyIn.cons rfl (fun K hK => ?_) AllReadyIn.nil))
                    · go_simp
                      refine hK _ _ ?_
                      clear hK K
                      refine wpAnyIn_ready (rs := [3]) (by kernel_rfl) (by simp) (AllReadyIn.cons rfl (fun K hK => ?_) AllReadyIn.nil)
                      go_simp
                      refine hK _ _ ?_
                      clear hK K
                      refine wpAnyIn_ready (rs := [4]) (by kernel_rfl) (by simp) (AllReadyIn.cons rfl (fun K hK => ?_) AllReadyIn.nil)
                      go_simp
                      refine hK _ _ ?_
                      clear hK K
                      refine wpAnyIn_ready (rs := [5]) (by kernel_rfl) (by simp) (AllReadyIn.cons rfl (fun K hK => ?_) AllReadyIn.nil)
                      go_simp
                      refine hK _ _ ?_
                      clear hK K
                      refine wpAnyIn_done (by kernel_rfl) ?_ _
                      gi_wp2_with fail
                      exact ⟨(FIN.out.below ((Below.refl _ _).drew)).lp, rfl, by rw [HU1.out, HU0.out, upd_less (s := ⟨x0, y0, fn0, fd0⟩) HLB.out]; exact (FIN.out.below ((Below.refl _ _).drew)).turn r, HBO.out.upd HPL.out⟩
                    · go_simp
                      refine hK _ _ ?_
                      clear hK K
                      refine wpAnyIn_ready (rs := [2, 4]) (by kernel_rfl) (by simp) (AllReadyIn.cons rfl (fun K hK => ?_) (AllReadyIn.cons rfl (fun K hK => ?_) AllReadyIn.nil))
                      · go_simp
                        refine hK _ _ ?_
                        clear hK K
                        refine wpAnyIn_ready (rs := [4]) (by kernel_rfl) (by simp) (AllReadyIn.cons rfl (fun K hK => ?_) AllReadyIn.nil)
                        go_simp
                        refine hK _ _ ?_
                        clear hK K
                        refine wpAnyIn_ready (rs := [5]) (by kernel_rfl) (by simp) (AllReadyIn.cons rfl (fun K hK => ?_) AllReadyIn.nil)
                        go_simp
                        refine hK _ _ ?_
                        clear hK K
                        refine wpAnyIn_done (by kernel_rfl) ?_ _
                        gi_wp2_with fail
                        exact ⟨(FIN.out.below ((Below.refl _ _).drew)).lp, rfl, by rw [HU1.out, HU0.out, upd_less (s := ⟨x0, y0, fn0, fd0⟩) HLB.out]; exact (FIN.out.below ((Below.refl _ _).drew)).turn r, HBO.out.upd HPL.out⟩
                      · go_simp
                        refine hK _ _ ?_
                        clear hK K
                        refine wpAnyIn_ready (rs := [2]) (by kernel_rfl) (by simp) (AllReadyIn.cons rfl (fun K hK => ?_) AllReadyIn.nil)
                        go_simp
                        refine hK _ _ ?_
                        clear hK K
                        refine wpAnyIn_ready (rs := [5]) (by kernel_rfl) (by simp) (AllReadyIn.cons rfl (fun K hK => ?_) AllReadyIn.nil)
                        go_simp
                        refine hK _ _ ?_
                        clear hK K
                        refine wpAnyIn_done (by kernel_rfl) ?_ _
                        gi_wp2_with fail
                        exact ⟨(FIN.out.below ((Below.refl _ _).drew)).lp, rfl, by rw [HU1.out, HU0.out, upd_less (s := ⟨x0, y0, fn0, fd0⟩) HLB.out]; exact (FIN.out.below ((Below.refl _ _).drew)).turn r, HBO.out.upd HPL.out⟩
            · rintro e W2 ⟨hv, hp, _⟩
              exact ⟨hv, hp.lp, hp.df, _, hp⟩
          case done =>
            rintro W2 r' ⟨r, hp⟩
            simp only [World.size_alloc, hA]
            have hp3 := hp.turn r'
            generalize World.putObj W2 _ _ = W3 at hp3 ⊢
            clear hp
            obtain ⟨x, y, hpl, hs⟩ := HSB.out
            have HS := Lib.hid hs
            have hnum := HG.out.num x y hpl.1 hpl.2.1 hpl.2.2.1 hpl.2.2.2
            have HNUM : Hid (0 ≤ at2 n bt x y ∧ at2 n bt x y < 9223372036854775808 ∧ 0 < dD m sz x y ∧ dD m sz x y ≤ 16384) := ⟨hnum.1, by have := hnum.2.1; omega, hnum.2.2.1, hnum.2.2.2⟩
            rw [hs] at hp3
            have HP3 := Lib.hid hp3
            have HPL := Lib.hid hpl
            have d1 := hp3.xa.cell (i := 0) rfl
            have d2 := hp3.xb.cell (i := 0) rfl
            have d0 : W3.cell? ⟨c + 1, 0, none⟩ = some (.pointer (some ⟨c, 0, none⟩)) := (HI.out.cb.below hp3.bel (by rw [← hA]; exact HI.out.cb.lt)).cell (i := 0) rfl
            have t2 : decide ((x : Int) < 0) = false := by simp
            simp only [] at d1 d2
            clear hp3 hs hpl hnum
            gi_wp2_with fail
            have hbA : Below W.heap.size W W3 := by rw [hA]; exact HP3.out.bel
            have hplx := HPL.out
            refine ⟨trivial, CallsIn.mono (callsIn_wide.2 (unite_ok HM.out W3 c n sz (.slice ao2 len cap2) bt (HO.out.below hbA) hn HG.out.btl x y (by have := hplx.1; have := hplx.2.1; omega) hplx.2.1 (by have := hplx.1; omega) HG.out.szb HNUM.out.1 HNUM.out.2.1 HNUM.out.2.2.1 HNUM.out.2.2.2)) ?_⟩
            rintro e w7 ⟨rfl, ho7, hm7⟩
            have HO7 := Lib.hid ho7
            have HM7 := Lib.hid hm7
            have hrow7 : w7.ownsRow 0 39 5 (.slice mo q mc) q ((runS n m d q).ms.flatMap Mg.cells) := by
              have h1 := owns_mod HI.out.row (Mod.of_below (F := fun _ => False) hbA) (fun _ _ h => h)
              refine owns_mod h1 hm7 (fun k hk => ?_)
              have h2 := HI.out.nr k hk
              rintro (e | e)
              · omega
              · have := HCS.out.2 k e; omega
            obtain ⟨mp, HMP⟩ : ∃ mp, Hid (lowN (at2 n bt x y) (dD m sz x y) = mp) := ⟨_, rfl⟩
            obtain ⟨mq, HMQ⟩ : ∃ mq, Hid (lowD (at2 n bt x y) (dD m sz x y) = mq) := ⟨_, rfl⟩
            obtain ⟨ms, HMS⟩ : ∃ ms, Hid (sz.getD x 0 + sz.getD y 0 = ms) := ⟨_, rfl⟩
            rw [HMP.out, HMQ.out, HMS.out]
            have HOWN := Lib.hid (hrow7.alloc (.cells #[.int .i64 x, .int .i64 y, .int .i64 mp, .int .i64 mq, .int .i64 ms] 39))
            have HNEW := Lib.hid (news_new w7 39 [.int .i64 x, .int .i64 y, .int .i64 mp, .int .i64 mq, .int .i64 ms])
            clear ho7 hm7 hbA hplx hrow7 d0 d1 d2
            gi_wp2_with (gi_at_builtin; with_reducible refine wpListIn_appendB 39 (.agg #[.int .i64 0, .int .i64 0, .int .i64 0, .int .i64 0, .int .i64 0]) 5 40 Try.underlying32 Try.infoMerge rfl (by decide) (.slice mo q mc) q ((runS n m d q).ms.flatMap Mg.cells) rfl HOWN.out ⟨w7.heap.size, 0, none⟩ 1 1 [.int .i64 x, .int .i64 y, .int .i64 mp, .int .i64 mq, .int .i64 ms] rfl rfl HNEW.out (by simp [Value.oneCell']) (by unfold maxLen; omega) (by omega) ?_)
            intro v' w9 hown9 hg9 hn9
            have HFIN : Hid (RInv w n m d c (.slice ao2 len cap2) (q + 1) v' ((A + 1 + 1 + 1 + 1) :: Ds) w9) := by
              refine RInv.step HI.out hA HP3.out (x := x) (y := y) (p := at2 n bt x y) (p2 := dD m sz x y) ?_ ?_ HM7.out ((Below.refl _ _).alloc (Nat.le_refl _) _) ?_ hg9 hn9
              · rw [HSZ.out, HBT.out]; exact HS.out
              · rw [HSZ.out, HBT.out]; exact HO7.out
              · rw [HSZ.out, HMP.out, HMQ.out, HMS.out]; exact hown9
            have HLV : Hid (lenV v' = q + 1) := by
              obtain ⟨ao9, cap9, e9⟩ := owns_slice hown9
              show _ = _
              rw [e9]; rfl
            clear hown9 hg9 hn9
            gi_wp2_with fail
            refine ⟨⟨q + 1, v', (A + 1 + 1 + 1 + 1) :: Ds, _, _, _, _, _, _, _, _, _, _, _, _, _, _, _, _, _, _, _, _, _, _, _, _, _, _, _, _, _, _, _, _, _, _, _, _, _, _, by omega, HFIN.out, rfl⟩, ?_⟩
            show n - lenV v' < n - q
            rw [HLV.out]
            omega
        · obtain rfl : q = n - 1 := by omega
          have t1 : decide (((n - 1 : Nat) : Int) < (n : Int) - 1) = false := by simp; omega
          obtain ⟨q, hqe⟩ : ∃ q, n - 1 = q := ⟨_, rfl⟩
          rw [hqe] at HI t1 hqn
          simp only [hqe]
          gi_wp2_with fail
          refine leaves_marks Ds W HI.out.dn HI.out.dfs ?_
          intro W' hm'
          refine ⟨_, results_tmp2 rfl _ _ _, ⟨.slice mo q mc, rfl, ?_, ?_, fun k hk => ?_⟩⟩
          · unfold runL
            rw [hqe]
            exact owns_mod HI.out.row hm' (fun k hk e => owns_ne_other HI.out.row (HI.out.dfs k e) rfl hk)
          · exact HI.out.bel.trans (hm'.below HI.out.bel.size (fun k hk => by have h1 := HI.out.dge k hk; have h2 := HCS.out.1; omega))
          · have h1 := HI.out.nr k hk
            have h2 := HCS.out.1
            omega

end Go.Proofs.Ythacjealoomioaa.Lk
