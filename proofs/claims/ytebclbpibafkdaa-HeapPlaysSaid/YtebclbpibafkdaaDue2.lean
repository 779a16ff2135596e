/- The schedule's Due, whole. -/
import Derived.Test.YtebclbpibafkdaaDue
namespace Go.Proofs.Ytebclbpibafkdaa
set_option linter.unusedVariables false
set_option linter.unusedSimpArgs false
open Go.RowKit Go.Shelf
attribute [local go_sem] Oper.semAt_some

structure DuePost (S : List Ent) (now : Int) (w : World) (s slots q : Nat) (g : HG) (e : Ending) (W' : World) : Prop where
  out : ∃ v g', e = .returned v ∧ EObj W' s slots (S.drop (dueN S now)) q g' ∧ W'.ownsRow 0 3 1 v (dueN S now) ((S.take (dueN S now)).map fun e => .int .i64 e.1) ∧ Mod g.foot w W' ∧
    (∀ x, g'.foot x → g.foot x ∨ w.heap.size ≤ x) ∧ ∀ x, v.ownBlock = some x → ¬ g'.foot x ∧ x ≠ s ∧ w.heap.size ≤ x

theorem Try.infoInt : (Try.prog.info? 3).map (fun i => (i.zero, i.size, i.bytes)) = some (some (.int .i64 0), 1, 8) := by kernel_rfl

theorem DueInv.start (w : World) (s slots : Nat) (S : List Ent) (q : Nat) (g : HG) (h : EObj w s slots S q g) (now : Int) (r : Loop) :
    DueInv w g s slots q S now (w.heap.size + 1) (w.heap.size + 1 + 1) w.heap.size (w.heap.size + 1 + 1 + 1 + 1) (w.heap.size + 1 + 1 + 1) r 0 0 g (.slice none 0 0)
      (((((w.alloc (.cells #[.slice none 0 0] 40)).alloc (.cells #[.pointer (some ⟨s, 0, none⟩)] 34)).alloc (.cells #[.int .i64 now] 2)).alloc (.deferred (some []))).alloc (.loop r)) := by
  have hlt := h.lt
  have nf : ∀ x, w.heap.size ≤ x → ¬ g.foot x := fun x hx hf => by have := hlt x (.inl hf); omega
  have hb : Below w.heap.size w (((((w.alloc (.cells #[.slice none 0 0] 40)).alloc (.cells #[.pointer (some ⟨s, 0, none⟩)] 34)).alloc (.cells #[.int .i64 now] 2)).alloc (.deferred (some []))).alloc (.loop r)) :=
    (((((Below.refl _ _).alloc (Nat.le_refl _) _).alloc (by simp) _).alloc (by simp; omega) _).alloc (by simp; omega) _).alloc (by simp; omega) _
  have hsl := hlt s (.inr rfl)
  refine ⟨?_, ?_, ?_, ?_, ?_, ?_, ?_, Mod.of_below hb, fun x hx => .inl hx, nf _ (by omega), nf _ (by omega), nf _ (by omega), nf _ (by omega), nf _ (by omega), (fun x hx => by cases hx), by omega, by omega, by omega, by omega, by omega, by omega⟩
  · exact h.below hb
  · exact (((Blk.new' (w.alloc _) 34 [_] (by simp)).alloc _).alloc _).alloc _
  · exact ((Blk.new' ((w.alloc _).alloc _) 2 [_] (by simp)).alloc _).alloc _
  · exact ((((Blk.new w 40 [_]).alloc _).alloc _).alloc _).alloc _
  · exact World.ownsRow_nil _ _ _ _
  · have := World.alloc_heap_new ((((w.alloc (.cells #[.slice none 0 0] 40)).alloc (.cells #[.pointer (some ⟨s, 0, none⟩)] 34)).alloc (.cells #[.int .i64 now] 2)).alloc (.deferred (some []))) (.loop r)
    simpa using this
  · rw [Below.heap_alloc _ _ _ (by simp)]
    have := World.alloc_heap_new (((w.alloc (.cells #[.slice none 0 0] 40)).alloc (.cells #[.pointer (some ⟨s, 0, none⟩)] 34)).alloc (.cells #[.int .i64 now] 2)) (.deferred (some []))
    simpa using this

theorem DueInv.var {w : World} {g0 : HG} {s slots q : Nat} {S : List Ent} {now : Int} {b1 b2 vb L D : Nat} {r : Loop} {j k : Nat} {g : HG} {v : Value} {W : World}
    (h : DueInv w g0 s slots q S now b1 b2 vb L D r j k g v W) {W1 W2 : World} (hb : Below W.heap.size W W1) (hg : W1.grownBy W2 v.ownBlock) : Blk W2 vb 40 [v] := by
  have hsz := hb.size
  have hh := h.xv
  unfold Blk at *
  rw [hg.block vb (by have := h.xv.lt; omega) (fun e => (h.nr vb e.symm).2.2.2.1 rfl), hb.block vb h.xv.lt]
  exact hh

/-- An element is collected. -/
theorem DueInv.collect {w : World} {g0 : HG} {s slots q : Nat} {S : List Ent} {now : Int} {b1 b2 vb L D : Nat} {r : Loop} {j k : Nat} {g : HG} {v : Value} {W : World}
    (h : DueInv w g0 s slots q S now b1 b2 vb L D r j k g v W) (hk : k < S.length) {W1 W2 : World} (hb : Below W.heap.size W W1) {v' : Value}
    (ho : W2.ownsRow 0 3 1 v' (k + 1) ((S.take k).map (fun e => .int .i64 e.1) ++ [.int .i64 (ent S k).1])) (hg : W1.grownBy W2 v.ownBlock) (hn : ∀ x, v'.ownBlock = some x → v.ownBlock = some x ∨ W1.heap.size ≤ x) :
    DueInv w g0 s slots q S now b1 b2 vb L D r j (k + 1) g v' (W2.setCell ⟨vb, 0, none⟩ v') := by
  have hsz := hb.size
  have hsz0 := h.mod.size
  have ltL : L < W.heap.size := (Array.getElem?_eq_some_iff.1 h.lp).1
  have ltD : D < W.heap.size := (Array.getElem?_eq_some_iff.1 h.df).1
  have hm : Mod (fun x => v.ownBlock = some x ∨ x = vb) W (W2.setCell ⟨vb, 0, none⟩ v') :=
    ((Mod.of_below hb).grown hg (fun x e _ => .inl e)).setCell _ (fun _ => .inr rfl) _
  have nrow : ∀ {x : Nat} {o : Obj}, W.heap[x]? = some o → o.isCells = false → v.ownBlock ≠ some x := fun {x o} hx ho' e => by
    rcases h.row.2 with ⟨rfl, _⟩ | ⟨g', cap, cur, rfl, _, hg', _⟩
    · cases e
    · have : g' = x := by simpa [Value.ownBlock] using e
      subst this
      rw [hx] at hg'
      cases hg'
      cases ho'
  have hv2 : Blk W2 vb 40 [v] := by
    have hh := h.xv
    unfold Blk at *
    rw [hg.block vb (by have := h.xv.lt; omega) (fun e => (h.nr vb e.symm).2.2.2.1 rfl), hb.block vb h.xv.lt]
    exact hh
  have hne : ∀ x, v'.ownBlock = some x → ¬ g.foot x ∧ x ≠ b1 ∧ x ≠ b2 ∧ x ≠ vb ∧ x ≠ s ∧ w.heap.size ≤ x := fun x hx => by
    rcases hn x hx with a | a
    · exact h.nr x a
    · have h1 := h.x1.lt
      have h2 := h.x2.lt
      have h3 := h.xv.lt
      have h4 := h.obj.blk.lt
      refine ⟨fun hf => ?_, by omega, by omega, by omega, by omega, by omega⟩
      have := h.obj.obj.rep.foot_lt x hf
      omega
  refine { h with obj := h.obj.mod hm ?_ ?_, x1 := h.x1.mod hm ?_, x2 := h.x2.mod hm ?_, xv := hv2.set 0 v', row := ?_, lp := ?_, df := ?_, mod := ?_, nr := hne }
  · rintro x hx (a | a)
    · exact (h.nr x a).1 hx
    · subst a; exact h.nv hx
  · rintro (a | a)
    · exact (h.nr _ a).2.2.2.2.1 rfl
    · exact h.es a
  · rintro (a | a)
    · exact (h.nr _ a).2.1 rfl
    · exact h.e1 a
  · rintro (a | a)
    · exact (h.nr _ a).2.2.1 rfl
    · exact h.e2 a
  · have e1 : (S.take (k + 1)).map (fun e => Value.int .i64 e.1) = (S.take k).map (fun e => Value.int .i64 e.1) ++ [Value.int .i64 (ent S k).1] := by
      rw [List.take_succ_eq_append_getElem hk, List.map_append, ent_eq hk]; rfl
    rw [e1]
    exact owns_same ho fun x hx => Below.heap_setCell _ _ _ _ (hne x hx).2.2.2.1
  · rw [hm.block L ltL (by
      rintro (a | a)
      · exact nrow h.lp rfl a
      · subst a; have := h.xv; unfold Blk at this; rw [h.lp] at this; cases this)]
    exact h.lp
  · rw [hm.block D ltD (by
      rintro (a | a)
      · exact nrow h.df rfl a
      · subst a; have := h.xv; unfold Blk at this; rw [h.df] at this; cases this)]
    exact h.df
  · refine h.mod.trans hm ?_
    rintro x hx (a | a)
    · have := (h.nr x a).2.2.2.2.2; omega
    · subst a; have := h.hvb; omega

set_option maxHeartbeats 2000000 in
set_option maxRecDepth 100000 in
theorem edue_ok (w : World) (s slots : Nat) (S : List Ent) (q : Nat) (g : HG) (h : EObj w s slots S q g) (now : Int) :
    Calls Try.prog 29 #[.pointer (some ⟨s, 0, none⟩), .int .i64 now] w (DuePost S now w s slots q g) := by
  refine (callsIn_wide (n := 3)).1 ?_
  have c1 := h.blk.cell (i := 1) rfl
  have H := Lib.hid h
  clear h
  refine callsIn_of_wp_marks Try.func29 rfl trivial ?_ rfl
  simp only [Try.ntmps29, List.size_toArray, List.length_cons, List.length_nil, Nat.reduceAdd, Nat.reduceSub, Array.replicate_succ, Array.replicate_zero, List.push_toArray, List.append_toArray, List.nil_append, List.cons_append]
  gi_wp2_with fail
  refine ⟨trivial, CallsIn.mono (callsIn_wide.2 (evalid_ok s q w c1)) ?_⟩
  rintro e w1 ⟨rfl, rfl⟩
  gi_wp2_with fail
  refine ⟨trivial, CallsIn.mono (callsIn_wide.2 (due_any s now _)) ?_⟩
  rintro e w1 ⟨rfl, rfl⟩
  gi_wp2_with fail
  have hlenS : S.length ≤ 65536 := by
    have := H.out.obj.good.len
    have := H.out.obj.rep.hs
    have := H.out.obj.perm.length_eq
    omega
  refine wp_range (gf := 90) (lb := #[.pointer (some ⟨w.heap.size + 1, 0, none⟩), .pointer (some ⟨w.heap.size + 1 + 1, 0, none⟩)]) rfl (enters_of Try.func90 (by kernel_rfl) rfl)
    (fun W2 => ∃ r g' v, DueInv w g s slots q S now (w.heap.size + 1) (w.heap.size + 1 + 1) w.heap.size (w.heap.size + 1 + 1 + 1 + 1) (w.heap.size + 1 + 1 + 1) r (dueN S now) (dueN S now) g' v W2) ?call ?done
  case call =>
    intro fn
    simp only [World.size_alloc, List.append_toArray, List.cons_append, List.nil_append]
    refine CallsIn.mono (due1_in 2 w g s slots q S now _ _ _ _ _ _ g _ _ (DueInv.start w s slots S q g H.out now _) ?_) ?_
    · intro k g1 v1 W1 hk hi
      refine yieldAt_of hi.lp rfl
        { tmps := #[Value.pointer (some { block := s, off := 0 }), Value.int IntKind.i64 now, undef, undef, Value.slice none 0 0,
        Value.pointer (some { block := w.heap.size, off := 0 }), .int .i64 (ent S k).1, Value.pointer (some { block := s, off := 0 }),
        Value.bool true, Value.bool false, Value.pointer (some { block := s, off := 0 }), Value.int IntKind.i64 now,
        Value.func (Fn.func 90) #[]
          #[Value.pointer (some { block := w.heap.size + 1, off := 0 }),
            Value.pointer (some { block := w.heap.size + 1 + 1, off := 0 })],
        .int .i64 (ent S k).1, undef, undef, undef, undef, undef], defers := [] } ?_ ?_
      · intro K hK
        gi_wp2
        exact hK
      · intro r rb Wb hr hWb
        rw [hr] at hi ⊢
        have hi2 := hi.turn rb
        rw [← hWb] at hi2
        clear hi hWb hr
        obtain ⟨ao, cp, rfl⟩ := owns_slice hi2.row
        have cv := hi2.xv.cell (i := 0) rfl
        have HI2 := Lib.hid hi2
        have hown := Lib.hid (hi2.row.alloc (.cells #[.int .i64 (ent S k).1] 3))
        have hnews := Lib.hid (news_new Wb 3 [.int .i64 (ent S k).1])
        have hlv := hi2.xv.lt
        have hvf := hi2.xv.free 0
        clear hi2
        generalize hx : ent S k = x at *
        have HX := Lib.hid hx
        clear hx
        gi_wp2_with (gi_at_builtin; with_reducible refine wpListIn_appendB 3 (.int .i64 0) 1 8 Try.underlying40 Try.infoInt rfl (by decide) (.slice ao k cp) k ((S.take k).map fun e => .int .i64 e.1) rfl hown.out ⟨Wb.heap.size, 0, none⟩ 1 1 [.int .i64 x.1] rfl rfl hnews.out (by simp [Value.oneCell']) (by unfold maxLen; omega) (by omega) ?_)
        intro v' w2 ho hg hn
        obtain ⟨ao', cp', rfl⟩ := owns_slice ho
        have hb : Below Wb.heap.size Wb (Wb.alloc (.cells #[.int .i64 x.1] 3)) := (Below.refl _ _).alloc (Nat.le_refl _) _
        have BV := HI2.out.var hb hg
        have HC := Lib.hid (HI2.out.collect hk hb (by rw [HX.out]; exact ho) hg hn)
        have d1 := BV.cell (i := 0) rfl
        have d2 := BV.free 0
        clear ho hg hn hb BV hown hnews cv hvf
        gi_wp2_with fail
        exact ⟨HC.out.lp, rfl, _, HC.out.turn r⟩
    · rintro e W2 ⟨hv, g', v', hi⟩
      exact ⟨hv, hi.lp, hi.df, _, g', v', hi⟩
  case done =>
    rintro W2 r' ⟨r, g', v, hi⟩
    simp only [World.size_alloc]
    have hi3 := hi.turn r'
    generalize World.putObj W2 _ _ = W3 at hi3 ⊢
    clear hi
    have c1 := hi3.xv.cell (i := 0) rfl
    have HI3 := Lib.hid hi3
    clear hi3
    gi_wp2_with fail
    refine ⟨by simp, .inl ⟨_, _, rfl, run_takeDeferred HI3.out.df, ?_⟩⟩
    refine ⟨_, results_tmp rfl _ _ _, v, g', rfl, ?_, ?_, ?_, HI3.out.foot, fun x hx => ⟨(HI3.out.nr x hx).1, (HI3.out.nr x hx).2.2.2.2.1, (HI3.out.nr x hx).2.2.2.2.2⟩⟩
    · have hm : Mod (fun x => x = w.heap.size + 1 + 1 + 1) W3 (W3.putObj (w.heap.size + 1 + 1 + 1) (.deferred none)) := (Mod.refl _ _).putObj _ _ (fun _ => rfl)
      refine HI3.out.obj.mod hm (fun x hx e => HI3.out.nD (e ▸ hx)) (fun e => ?_)
      have := HI3.out.obj.blk
      unfold Blk at this
      rw [e, HI3.out.df] at this
      cases this
    · refine owns_same HI3.out.row fun x hx => World.putObj_heap_other (fun e => ?_)
      rcases HI3.out.row.2 with ⟨rfl, _⟩ | ⟨gg, cap, cur, rfl, _, hgg, _⟩
      · cases hx
      · have : gg = x := by simpa [Value.ownBlock] using hx
        subst this
        rw [e, HI3.out.df] at hgg
        cases hgg
    · exact HI3.out.mod.putObj _ _ (fun hh => by omega)

end Go.Proofs.Ytebclbpibafkdaa
