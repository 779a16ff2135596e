/- Several texts in one: Due, Due2, ExpM, RefE, App, Clone, ClA. -/
import Derived.Test.YtlooaipipmiijaaGreatZX01
import Derived.Test.YtlooaipipmiijaaGreatZX04
import Derived.Test.YtlooaipipmiijaaGreatZX11
import Derived.Test.YtlooaipipmiijaaGreatZX13
import Derived.Test.YtlooaipipmiijaaGreatZX16
namespace Go.Proofs.YtlooaipipmiijaaGreat
set_option linter.unusedVariables false
set_option linter.unusedSimpArgs false
open Go.RowKit Go.Shelf
attribute [local go_sem] Oper.semAt_some
structure DueInv (w : World) (g0 : HG) (s slots q : Nat) (S : List Ent) (now : Int) (b1 b2 vb L D : Nat) (r : Loop) (j k : Nat) (g : HG) (v : Value) (W : World) : Prop where
  obj : EObj W s slots (S.drop j) q g
  x1 : Blk W b1 53 [.pointer (some ⟨s, 0, none⟩)]
  x2 : Blk W b2 2 [.int .i64 now]
  xv : Blk W vb 58 [v]
  row : W.ownsRow 0 3 1 v k ((S.take k).map fun e => .int .i64 e.1)
  lp : W.heap[L]? = some (.loop r)
  df : W.heap[D]? = some (.deferred (some []))
  mod : Mod g0.foot w W
  foot : ∀ x, g.foot x → g0.foot x ∨ w.heap.size ≤ x
  n1 : ¬ g.foot b1
  n2 : ¬ g.foot b2
  nv : ¬ g.foot vb
  nL : ¬ g.foot L
  nD : ¬ g.foot D
  nr : ∀ x, v.ownBlock = some x → ¬ g.foot x ∧ x ≠ b1 ∧ x ≠ b2 ∧ x ≠ vb ∧ x ≠ s ∧ w.heap.size ≤ x
  e1 : b1 ≠ vb
  e2 : b2 ≠ vb
  es : s ≠ vb
  hvb : w.heap.size ≤ vb
  hL : w.heap.size ≤ L
  hD : w.heap.size ≤ D
theorem DueInv.step {w : World} {g0 : HG} {s slots q : Nat} {S : List Ent} {now : Int} {b1 b2 vb L D : Nat} {r : Loop} {j k : Nat} {g : HG} {v : Value} {W : World}
    (h : DueInv w g0 s slots q S now b1 b2 vb L D r j k g v W) {j' : Nat} {g' : HG} {W' : World} (ho : HObj W' q slots (S.drop j') g') (hm : Mod g.foot W W') (hf : ∀ x, g'.foot x → g.foot x ∨ W.heap.size ≤ x) :
    DueInv w g0 s slots q S now b1 b2 vb L D r j' k g' v W' := by
  have hsz := h.mod.size
  have ltL : L < W.heap.size := (Array.getElem?_eq_some_iff.1 h.lp).1
  have ltD : D < W.heap.size := (Array.getElem?_eq_some_iff.1 h.df).1
  have nf : ∀ x, x < W.heap.size → ¬ g.foot x → ¬ g'.foot x := fun x hx hn hh => by
    rcases hf x hh with a | a
    · exact hn a
    · omega
  refine { h with obj := h.obj.step ho hm hf, x1 := h.x1.mod hm h.n1, x2 := h.x2.mod hm h.n2, xv := h.xv.mod hm h.nv, row := owns_same h.row fun x hx => hm.block x (h.row.lt x hx).2 (h.nr x hx).1, lp := ?_, df := ?_, mod := ?_, foot := ?_, n1 := nf _ h.x1.lt h.n1, n2 := nf _ h.x2.lt h.n2, nv := nf _ h.xv.lt h.nv, nL := nf _ ltL h.nL, nD := nf _ ltD h.nD, nr := ?_ }
  · rw [hm.block L ltL h.nL]; exact h.lp
  · rw [hm.block D ltD h.nD]; exact h.df
  · refine h.mod.trans hm fun x hx hf' => ?_
    rcases h.foot x hf' with a | a
    · exact a
    · omega
  · intro x hx
    rcases hf x hx with a | a
    · exact h.foot x a
    · exact .inr (by omega)
  · intro x hx
    have hh := h.nr x hx
    exact ⟨nf _ (h.row.lt x hx).2 hh.1, hh.2⟩
theorem DueInv.turn {w : World} {g0 : HG} {s slots q : Nat} {S : List Ent} {now : Int} {b1 b2 vb L D : Nat} {r : Loop} {j k : Nat} {g : HG} {v : Value} {W : World}
    (h : DueInv w g0 s slots q S now b1 b2 vb L D r j k g v W) (r' : Loop) : DueInv w g0 s slots q S now b1 b2 vb L D r' j k g v (W.putObj L (.loop r')) := by
  have ltL : L < W.heap.size := (Array.getElem?_eq_some_iff.1 h.lp).1
  have hm : Mod (fun x => x = L) W (W.putObj L (.loop r')) := (Mod.refl _ _).putObj L _ (fun _ => rfl)
  have nc : ∀ {x : Nat} {T : TypeId} {cs : List Value}, Blk W x T cs → x ≠ L := fun hb e => by
    subst e; unfold Blk at hb; rw [h.lp] at hb; cases hb
  have hDL : D ≠ L := fun e => by have := h.df; rw [e, h.lp] at this; cases this
  have nr : ∀ x, v.ownBlock = some x → x ≠ L := fun x hx e => by
    rcases h.row.2 with ⟨rfl, _⟩ | ⟨g', cap, cur, rfl, _, hg, _⟩
    · cases hx
    · have : g' = x := by simpa [Value.ownBlock] using hx
      subst this
      rw [e, h.lp] at hg
      cases hg
  refine { h with obj := h.obj.mod hm (fun x hx e => h.nL (e ▸ hx)) (nc h.obj.blk), x1 := h.x1.mod hm (nc h.x1), x2 := h.x2.mod hm (nc h.x2), xv := h.xv.mod hm (nc h.xv), row := owns_same h.row fun x hx => World.putObj_heap_other (nr x hx), lp := World.putObj_heap_same ltL, df := (World.putObj_heap_other hDL).trans h.df, mod := ?_ }
  exact h.mod.putObj L _ (fun hh => by have := h.hL; omega)
set_option maxHeartbeats 400000 in
theorem due_any (s : Nat) (now : Int) (w : World) :
    Calls Tryz.prog 54 #[.pointer (some ⟨s, 0, none⟩), .int .i64 now] w
      (Ret (.func (.func 96) #[] #[.pointer (some ⟨w.heap.size, 0, none⟩), .pointer (some ⟨w.heap.size + 1, 0, none⟩)]) ((w.alloc (.cells #[.pointer (some ⟨s, 0, none⟩)] 53)).alloc (.cells #[.int .i64 now] 2))) := by
  go_enter Tryz.func54, Tryz.ntmps54
  go_wp2
  go_ret
  exact ⟨rfl, rfl⟩
def lenAt (W : World) (q : Nat) : Nat := match W.cell? ⟨q, 2, none⟩ with | some (.slice _ n _) => n | _ => 0
theorem lenAt_of {W : World} {q slots : Nat} {S : List Ent} {g : HG} (h : HObj W q slots S g) : lenAt W q = S.length := by
  have c2 := h.rep.hb.cell (i := 2) rfl
  obtain ⟨ao, cp, hiv⟩ := owns_slice h.rep.hi
  rw [hiv, h.hb] at c2
  unfold lenAt
  rw [c2]
  exact h.perm.length_eq.symm
def dueN (S : List Ent) (now : Int) : Nat := (S.takeWhile fun e => decide (e.2 ≤ now)).length
theorem dueN_le (S : List Ent) (now : Int) : dueN S now ≤ S.length := (List.takeWhile_prefix _).length_le
theorem dueN_at {S : List Ent} {now : Int} {k : Nat} (hk : k ≤ S.length) (hall : ∀ i, i < k → (ent S i).2 ≤ now) (hn : k < S.length → ¬ (ent S k).2 ≤ now) : k = dueN S now := by
  unfold dueN
  induction S generalizing k with
  | nil => simp at hk; simp [hk]
  | cons x l ih =>
    cases k with
    | zero =>
      have := hn (by simp)
      simp only [ent, List.getD_cons_zero] at this
      simp [List.takeWhile_cons, this]
    | succ k =>
      have h0 := hall 0 (by omega)
      simp only [ent, List.getD_cons_zero] at h0
      simp only [List.takeWhile_cons, h0, decide_true, if_true, List.length_cons]
      rw [← ih (k := k) (by simpa using hk) (fun i hi => by have := hall (i + 1) (by omega); simpa [ent] using this) (fun hl => by have := hn (by simpa using hl); simpa [ent] using this)]
set_option maxHeartbeats 2000000 in
set_option maxRecDepth 100000 in
theorem due1_in (n : Nat) (w : World) (g0 : HG) (s slots q : Nat) (S : List Ent) (now : Int) (b1 b2 vb L D : Nat) (r : Loop) (g : HG) (v : Value) (W : World)
    (h : DueInv w g0 s slots q S now b1 b2 vb L D r 0 0 g v W)
    (hY : ∀ k g v W1, k < S.length → DueInv w g0 s slots q S now b1 b2 vb L D r (k + 1) k g v W1 → YieldAt Fence.wide (n - 1) Tryz.prog L #[.int .i64 (ent S k).1] W1
      fun e W' => e = .returned (.bool true) ∧ ∃ v', DueInv w g0 s slots q S now b1 b2 vb L D r (k + 1) (k + 1) g v' W') :
    CallsIn Fence.wide n Tryz.prog 96 #[.func (.yield L) #[] #[], .pointer (some ⟨b1, 0, none⟩), .pointer (some ⟨b2, 0, none⟩)] W
      fun e W' => (∃ v, e = .returned v) ∧ ∃ g v, DueInv w g0 s slots q S now b1 b2 vb L D r (dueN S now) (dueN S now) g v W' := by
  have H := Lib.hid h
  have HY := Lib.hid hY
  clear h hY
  refine callsIn_of_wp Tryz.func96 rfl trivial ?_ rfl
  simp only [Tryz.ntmps96, List.size_toArray, List.length_cons, List.length_nil, Nat.reduceAdd, Nat.reduceSub, Array.replicate_succ, Array.replicate_zero, List.push_toArray, List.append_toArray, List.nil_append, List.cons_append]
  gi_wp2_with fail
  gi_loopw [4] (fun _ wr => ∃ k g v, k ≤ S.length ∧ DueInv w g0 s slots q S now b1 b2 vb L D r k k g v wr ∧ ∀ i, i < k → (ent S i).2 ≤ now) (fun _ wr => lenAt wr q)
  case atStart => exact ⟨0, g, v, Nat.zero_le _, H.out, fun i hi => by omega⟩
  case round =>
    obtain ⟨k, g, v, hk, hi, hall⟩ := hrel
    have HI := Lib.hid hi
    have HA := Lib.hid hall
    have c1 := hi.x1.cell (i := 0) rfl
    have c2 := hi.x2.cell (i := 0) rfl
    have c3 := hi.obj.blk.cell (i := 1) rfl
    clear hi hall
    by_cases hkl : k < S.length
    · have hd : S.drop k = ent S k :: S.drop (k + 1) := by rw [List.drop_eq_getElem_cons hkl, ent_eq hkl]
      have ho := HI.out.obj.obj
      rw [hd] at ho
      have HO := Lib.hid ho
      have HLN := Lib.hid (lenAt_of HI.out.obj.obj)
      have HDR := Lib.hid hd
      clear ho hd
      generalize hx : ent S k = x at *
      have HX := Lib.hid hx
      clear hx
      gi_wp2_with fail
      refine ⟨trivial, fun h => by simp [Fence.wide] at h, CallsIn.mono (callsIn_wide.2 (min_some wr q slots x _ g HO.out)) ?_⟩
      rintro e w2 ⟨rfl, hb2⟩
      have HI2 := Lib.hid (HI.out.step (HI.out.obj.obj.below hb2) (Mod.of_below hb2) (fun x hx => .inl hx))
      have HI3 := Lib.hid (HI2.out.step (HI2.out.obj.obj.below ((Below.refl _ _).alloc (Nat.le_refl _) (.cells #[.int .i64 x.1, .int .i64 x.2] 99))) (Mod.of_below ((Below.refl _ _).alloc (Nat.le_refl _) (.cells #[.int .i64 x.1, .int .i64 x.2] 99))) (fun x hx => .inl hx))
      have BX := Blk.new w2 99 [.int .i64 x.1, .int .i64 x.2]
      have hlx : w2.heap.size < (w2.alloc (.cells #[.int .i64 x.1, .int .i64 x.2] 99)).heap.size := by simp
      have nfx : ¬ g.foot w2.heap.size := fun hh => by have := HI2.out.obj.obj.rep.foot_lt _ hh; omega
      have HBX := Lib.hid BX
      have d1 := HI3.out.x1.cell (i := 0) rfl
      have d2 := HI3.out.x2.cell (i := 0) rfl
      have d3 := HI3.out.obj.blk.cell (i := 1) rfl
      have d4 := BX.cell (i := 0) rfl
      have d5 := BX.cell (i := 1) rfl
      clear hb2 BX c1 c2 c3
      by_cases hnow : x.2 ≤ now
      · have t1 : decide (now < x.2) = false := by simp; omega
        gi_wp2_with fail
        have ho3 := HI3.out.obj.obj
        rw [HDR.out] at ho3
        refine ⟨trivial, fun h => by simp [Fence.wide] at h, CallsIn.mono (callsIn_wide.2 (pop_some _ q slots x _ g ho3)) ?_⟩
        rintro e w4 ⟨rfl, g4, ho4, hm4, hf4⟩
        have HI4 := Lib.hid (HI3.out.step ho4 hm4 hf4)
        have BX4 := HBX.out.mod hm4 nfx
        have e4 := BX4.cell (i := 0) rfl
        obtain ⟨fn, tmps, assign, body, hy, hR⟩ := HY.out k g4 v w4 hkl HI4.out
        rw [HX.out] at hy
        have HR := Lib.hid hR
        clear ho3 ho4 hm4 hf4 BX4 d1 d2 d3 d4 d5 hR
        gi_wp2_with fail
        refine ⟨fun h => by simp [Fence.wide] at h, HR.out.mono ?_⟩
        rintro e w5 ⟨rfl, v5, hi5⟩
        have HI5 := Lib.hid hi5
        clear hi5 e4 hy
        gi_wp2_with fail
        go_roundw
        case rel => exact ⟨k + 1, g4, v5, hkl, HI5.out, fun i hi => by
          by_cases e : i < k
          · exact HA.out i e
          · obtain rfl : i = k := by omega
            rw [HX.out]; exact hnow⟩
        case measure =>
          rw [lenAt_of HI5.out.obj.obj, HLN.out]
          simp only [List.length_drop]
          omega
      · have t1 : decide (now < x.2) = true := by simp; omega
        gi_wp2_with fail
        refine bodyPost_ret (results_none rfl _ _ _) rfl ?_
        have hkk := dueN_at hk HA.out (fun _ => by rw [HX.out]; omega)
        rw [← hkk]
        exact ⟨⟨_, rfl⟩, g, v, HI3.out⟩
    · have hd : S.drop k = [] := List.drop_of_length_le (by omega)
      have ho := HI.out.obj.obj
      rw [hd] at ho
      have HO := Lib.hid ho
      clear ho hd
      gi_wp2_with fail
      refine ⟨trivial, fun h => by simp [Fence.wide] at h, CallsIn.mono (callsIn_wide.2 (min_empty wr q slots g HO.out)) ?_⟩
      rintro e w2 ⟨rfl, hb2⟩
      have HI2 := Lib.hid (HI.out.step (HI.out.obj.obj.below hb2) (Mod.of_below hb2) (fun x hx => .inl hx))
      have HI3 := Lib.hid (HI2.out.step (HI2.out.obj.obj.below ((Below.refl _ _).alloc (Nat.le_refl _) (.cells #[.int .i64 0, .int .i64 0] 99))) (Mod.of_below ((Below.refl _ _).alloc (Nat.le_refl _) (.cells #[.int .i64 0, .int .i64 0] 99))) (fun x hx => .inl hx))
      clear hb2 c1 c2 c3
      gi_wp2_with fail
      refine bodyPost_ret (results_none rfl _ _ _) rfl ?_
      have hkk := dueN_at hk HA.out (fun h => absurd h hkl)
      rw [← hkk]
      exact ⟨⟨_, rfl⟩, g, v, HI3.out⟩
end Go.Proofs.YtlooaipipmiijaaGreat

namespace Go.Proofs.YtlooaipipmiijaaGreat
set_option linter.unusedVariables false
set_option linter.unusedSimpArgs false
open Go.RowKit Go.Shelf
attribute [local go_sem] Oper.semAt_some
structure DuePost (S : List Ent) (now : Int) (w : World) (s slots q : Nat) (g : HG) (e : Ending) (W' : World) : Prop where
  out : ∃ v g', e = .returned v ∧ EObj W' s slots (S.drop (dueN S now)) q g' ∧ W'.ownsRow 0 3 1 v (dueN S now) ((S.take (dueN S now)).map fun e => .int .i64 e.1) ∧ Mod g.foot w W' ∧
    (∀ x, g'.foot x → g.foot x ∨ w.heap.size ≤ x) ∧ ∀ x, v.ownBlock = some x → ¬ g'.foot x ∧ x ≠ s ∧ w.heap.size ≤ x
theorem Tryz.infoInt : (Tryz.prog.info? 3).map (fun i => (i.zero, i.size, i.bytes)) = some (some (.int .i64 0), 1, 8) := by kernel_rfl
theorem DueInv.start (w : World) (s slots : Nat) (S : List Ent) (q : Nat) (g : HG) (h : EObj w s slots S q g) (now : Int) (r : Loop) :
    DueInv w g s slots q S now (w.heap.size + 1) (w.heap.size + 1 + 1) w.heap.size (w.heap.size + 1 + 1 + 1 + 1) (w.heap.size + 1 + 1 + 1) r 0 0 g (.slice none 0 0)
      (((((w.alloc (.cells #[.slice none 0 0] 58)).alloc (.cells #[.pointer (some ⟨s, 0, none⟩)] 53)).alloc (.cells #[.int .i64 now] 2)).alloc (.deferred (some []))).alloc (.loop r)) := by
  have hlt := h.lt
  have nf : ∀ x, w.heap.size ≤ x → ¬ g.foot x := fun x hx hf => by have := hlt x (.inl hf); omega
  have hb : Below w.heap.size w (((((w.alloc (.cells #[.slice none 0 0] 58)).alloc (.cells #[.pointer (some ⟨s, 0, none⟩)] 53)).alloc (.cells #[.int .i64 now] 2)).alloc (.deferred (some []))).alloc (.loop r)) :=
    (((((Below.refl _ _).alloc (Nat.le_refl _) _).alloc (by simp) _).alloc (by simp; omega) _).alloc (by simp; omega) _).alloc (by simp; omega) _
  have hsl := hlt s (.inr rfl)
  refine ⟨?_, ?_, ?_, ?_, ?_, ?_, ?_, Mod.of_below hb, fun x hx => .inl hx, nf _ (by omega), nf _ (by omega), nf _ (by omega), nf _ (by omega), nf _ (by omega), (fun x hx => by cases hx), by omega, by omega, by omega, by omega, by omega, by omega⟩
  · exact h.below hb
  · exact (((Blk.new' (w.alloc _) 53 [_] (by simp)).alloc _).alloc _).alloc _
  · exact ((Blk.new' ((w.alloc _).alloc _) 2 [_] (by simp)).alloc _).alloc _
  · exact ((((Blk.new w 58 [_]).alloc _).alloc _).alloc _).alloc _
  · exact World.ownsRow_nil _ _ _ _
  · have := World.alloc_heap_new ((((w.alloc (.cells #[.slice none 0 0] 58)).alloc (.cells #[.pointer (some ⟨s, 0, none⟩)] 53)).alloc (.cells #[.int .i64 now] 2)).alloc (.deferred (some []))) (.loop r)
    simpa using this
  · rw [Below.heap_alloc _ _ _ (by simp)]
    have := World.alloc_heap_new (((w.alloc (.cells #[.slice none 0 0] 58)).alloc (.cells #[.pointer (some ⟨s, 0, none⟩)] 53)).alloc (.cells #[.int .i64 now] 2)) (.deferred (some []))
    simpa using this
theorem DueInv.var {w : World} {g0 : HG} {s slots q : Nat} {S : List Ent} {now : Int} {b1 b2 vb L D : Nat} {r : Loop} {j k : Nat} {g : HG} {v : Value} {W : World}
    (h : DueInv w g0 s slots q S now b1 b2 vb L D r j k g v W) {W1 W2 : World} (hb : Below W.heap.size W W1) (hg : W1.grownBy W2 v.ownBlock) : Blk W2 vb 58 [v] := by
  have hsz := hb.size
  have hh := h.xv
  unfold Blk at *
  rw [hg.block vb (by have := h.xv.lt; omega) (fun e => (h.nr vb e.symm).2.2.2.1 rfl), hb.block vb h.xv.lt]
  exact hh
theorem DueInv.collect {w : World} {g0 : HG} {s slots q : Nat} {S : List Ent} {now : Int} {b1 b2 vb L D : Nat} {r : Loop} {j k : Nat} {g : HG} {v : Value} {W : World}
    (h : DueInv w g0 s slots q S now b1 b2 vb L D r j k g v W) (hk : k < S.length) {W1 W2 : World} (hb : Below W.heap.size W W1) {v' : Value}
    (ho : W2.ownsRow 0 3 1 v' (k + 1) ((S.take k).map (fun e => .int .i64 e.1) ++ [.int .i64 (ent S k).1])) (hg : W1.grownBy W2 v.ownBlock) (hn : ∀ x, v'.ownBlock = some x → v.ownBlock = some x ∨ W1.heap.size ≤ x) :
    DueInv w g0 s slots q S now b1 b2 vb L D r j (k + 1) g v' (W2.setCell ⟨vb, 0, none⟩ v') := by
  have hsz := hb.size
  have hsz0 := h.mod.size
  have ltL : L < W.heap.size := (Array.getElem?_eq_some_iff.1 h.lp).1
  have ltD : D < W.heap.size := (Array.getElem?_eq_some_iff.1 h.df).1
  have hm : Mod (fun x => v.ownBlock = some x ∨ x = vb) W (W2.setCell ⟨vb, 0, none⟩ v') :=
    ((Mod.of_below hb).grown hg (fun x e _ => .inl e)).setCell _ (fun _ => .inr rfl) _
  have nrow : ∀ {x : Nat} {o : Obj}, W.heap[x]? = some o → o.isCells = false → v.ownBlock ≠ some x := fun {x o} hx ho' e => by
    rcases h.row.2 with ⟨rfl, _⟩ | ⟨g', cap, cur, rfl, _, hg', _⟩
    · cases e
    · have : g' = x := by simpa [Value.ownBlock] using e
      subst this
      rw [hx] at hg'
      cases hg'
      cases ho'
  have hv2 : Blk W2 vb 58 [v] := by
    have hh := h.xv
    unfold Blk at *
    rw [hg.block vb (by have := h.xv.lt; omega) (fun e => (h.nr vb e.symm).2.2.2.1 rfl), hb.block vb h.xv.lt]
    exact hh
  have hne : ∀ x, v'.ownBlock = some x → ¬ g.foot x ∧ x ≠ b1 ∧ x ≠ b2 ∧ x ≠ vb ∧ x ≠ s ∧ w.heap.size ≤ x := fun x hx => by
    rcases hn x hx with a | a
    · exact h.nr x a
    · have h1 := h.x1.lt
      have h2 := h.x2.lt
      have h3 := h.xv.lt
      have h4 := h.obj.blk.lt
      refine ⟨fun hf => ?_, by omega, by omega, by omega, by omega, by omega⟩
      have := h.obj.obj.rep.foot_lt x hf
      omega
  refine { h with obj := h.obj.mod hm ?_ ?_, x1 := h.x1.mod hm ?_, x2 := h.x2.mod hm ?_, xv := hv2.set 0 v', row := ?_, lp := ?_, df := ?_, mod := ?_, nr := hne }
  · rintro x hx (a | a)
    · exact (h.nr x a).1 hx
    · subst a; exact h.nv hx
  · rintro (a | a)
    · exact (h.nr _ a).2.2.2.2.1 rfl
    · exact h.es a
  · rintro (a | a)
    · exact (h.nr _ a).2.1 rfl
    · exact h.e1 a
  · rintro (a | a)
    · exact (h.nr _ a).2.2.1 rfl
    · exact h.e2 a
  · have e1 : (S.take (k + 1)).map (fun e => Value.int .i64 e.1) = (S.take k).map (fun e => Value.int .i64 e.1) ++ [Value.int .i64 (ent S k).1] := by
      rw [List.take_succ_eq_append_getElem hk, List.map_append, ent_eq hk]; rfl
    rw [e1]
    exact owns_same ho fun x hx => Below.heap_setCell _ _ _ _ (hne x hx).2.2.2.1
  · rw [hm.block L ltL (by
      rintro (a | a)
      · exact nrow h.lp rfl a
      · subst a; have := h.xv; unfold Blk at this; rw [h.lp] at this; cases this)]
    exact h.lp
  · rw [hm.block D ltD (by
      rintro (a | a)
      · exact nrow h.df rfl a
      · subst a; have := h.xv; unfold Blk at this; rw [h.df] at this; cases this)]
    exact h.df
  · refine h.mod.trans hm ?_
    rintro x hx (a | a)
    · have := (h.nr x a).2.2.2.2.2; omega
    · subst a; have := h.hvb; omega
set_option maxHeartbeats 2000000 in
set_option maxRecDepth 100000 in
theorem edue_ok (w : World) (s slots : Nat) (S : List Ent) (q : Nat) (g : HG) (h : EObj w s slots S q g) (now : Int) :
    Calls Tryz.prog 23 #[.pointer (some ⟨s, 0, none⟩), .int .i64 now] w (DuePost S now w s slots q g) := by
  refine (callsIn_wide (n := 3)).1 ?_
  have c1 := h.blk.cell (i := 1) rfl
  have H := Lib.hid h
  clear h
  refine callsIn_of_wp_marks Tryz.func23 rfl trivial ?_ rfl
  simp only [Tryz.ntmps23, List.size_toArray, List.length_cons, List.length_nil, Nat.reduceAdd, Nat.reduceSub, Array.replicate_succ, Array.replicate_zero, List.push_toArray, List.append_toArray, List.nil_append, List.cons_append]
  gi_wp2_with fail
  refine ⟨trivial, CallsIn.mono (callsIn_wide.2 (evalid_ok s q w c1)) ?_⟩
  rintro e w1 ⟨rfl, rfl⟩
  gi_wp2_with fail
  refine ⟨trivial, CallsIn.mono (callsIn_wide.2 (due_any s now _)) ?_⟩
  rintro e w1 ⟨rfl, rfl⟩
  gi_wp2_with fail
  have hlenS : S.length ≤ 65536 := by
    have := H.out.obj.good.len
    have := H.out.obj.rep.hs
    have := H.out.obj.perm.length_eq
    omega
  refine wp_range (gf := 96) (lb := #[.pointer (some ⟨w.heap.size + 1, 0, none⟩), .pointer (some ⟨w.heap.size + 1 + 1, 0, none⟩)]) rfl (enters_of Tryz.func96 (by kernel_rfl) rfl)
    (fun W2 => ∃ r g' v, DueInv w g s slots q S now (w.heap.size + 1) (w.heap.size + 1 + 1) w.heap.size (w.heap.size + 1 + 1 + 1 + 1) (w.heap.size + 1 + 1 + 1) r (dueN S now) (dueN S now) g' v W2) ?call ?done
  case call =>
    intro fn
    simp only [World.size_alloc, List.append_toArray, List.cons_append, List.nil_append]
    refine CallsIn.mono (due1_in 2 w g s slots q S now _ _ _ _ _ _ g _ _ (DueInv.start w s slots S q g H.out now _) ?_) ?_
    · intro k g1 v1 W1 hk hi
      refine yieldAt_of hi.lp rfl
        { tmps := #[Value.pointer (some { block := s, off := 0 }), Value.int IntKind.i64 now, undef, undef, Value.slice none 0 0,
        Value.pointer (some { block := w.heap.size, off := 0 }), .int .i64 (ent S k).1, Value.pointer (some { block := s, off := 0 }),
        Value.bool true, Value.bool false, Value.pointer (some { block := s, off := 0 }), Value.int IntKind.i64 now,
        Value.func (Fn.func 96) #[]
          #[Value.pointer (some { block := w.heap.size + 1, off := 0 }),
            Value.pointer (some { block := w.heap.size + 1 + 1, off := 0 })],
        .int .i64 (ent S k).1, undef, undef, undef, undef, undef], defers := [] } ?_ ?_
      · intro K hK
        gi_wp2
        exact hK
      · intro r rb Wb hr hWb
        rw [hr] at hi ⊢
        have hi2 := hi.turn rb
        rw [← hWb] at hi2
        clear hi hWb hr
        obtain ⟨ao, cp, rfl⟩ := owns_slice hi2.row
        have cv := hi2.xv.cell (i := 0) rfl
        have HI2 := Lib.hid hi2
        have hown := Lib.hid (hi2.row.alloc (.cells #[.int .i64 (ent S k).1] 3))
        have hnews := Lib.hid (news_new Wb 3 [.int .i64 (ent S k).1])
        have hlv := hi2.xv.lt
        have hvf := hi2.xv.free 0
        clear hi2
        generalize hx : ent S k = x at *
        have HX := Lib.hid hx
        clear hx
        gi_wp2_with (gi_at_builtin; with_reducible refine wpListIn_appendB 3 (.int .i64 0) 1 8 Tryz.underlying58 Tryz.infoInt rfl (by decide) (.slice ao k cp) k ((S.take k).map fun e => .int .i64 e.1) rfl hown.out ⟨Wb.heap.size, 0, none⟩ 1 1 [.int .i64 x.1] rfl rfl hnews.out (by simp [Value.oneCell']) (by unfold maxLen; omega) (by omega) ?_)
        intro v' w2 ho hg hn
        obtain ⟨ao', cp', rfl⟩ := owns_slice ho
        have hb : Below Wb.heap.size Wb (Wb.alloc (.cells #[.int .i64 x.1] 3)) := (Below.refl _ _).alloc (Nat.le_refl _) _
        have BV := HI2.out.var hb hg
        have HC := Lib.hid (HI2.out.collect hk hb (by rw [HX.out]; exact ho) hg hn)
        have d1 := BV.cell (i := 0) rfl
        have d2 := BV.free 0
        clear ho hg hn hb BV hown hnews cv hvf
        gi_wp2_with fail
        exact ⟨HC.out.lp, rfl, _, HC.out.turn r⟩
    · rintro e W2 ⟨hv, g', v', hi⟩
      exact ⟨hv, hi.lp, hi.df, _, g', v', hi⟩
  case done =>
    rintro W2 r' ⟨r, g', v, hi⟩
    simp only [World.size_alloc]
    have hi3 := hi.turn r'
    generalize World.putObj W2 _ _ = W3 at hi3 ⊢
    clear hi
    have c1 := hi3.xv.cell (i := 0) rfl
    have HI3 := Lib.hid hi3
    clear hi3
    gi_wp2_with fail
    refine ⟨by simp, .inl ⟨_, _, rfl, run_takeDeferred HI3.out.df, ?_⟩⟩
    refine ⟨_, results_tmp rfl _ _ _, v, g', rfl, ?_, ?_, ?_, HI3.out.foot, fun x hx => ⟨(HI3.out.nr x hx).1, (HI3.out.nr x hx).2.2.2.2.1, (HI3.out.nr x hx).2.2.2.2.2⟩⟩
    · have hm : Mod (fun x => x = w.heap.size + 1 + 1 + 1) W3 (W3.putObj (w.heap.size + 1 + 1 + 1) (.deferred none)) := (Mod.refl _ _).putObj _ _ (fun _ => rfl)
      refine HI3.out.obj.mod hm (fun x hx e => HI3.out.nD (e ▸ hx)) (fun e => ?_)
      have := HI3.out.obj.blk
      unfold Blk at this
      rw [e, HI3.out.df] at this
      cases this
    · refine owns_same HI3.out.row fun x hx => World.putObj_heap_other (fun e => ?_)
      rcases HI3.out.row.2 with ⟨rfl, _⟩ | ⟨gg, cap, cur, rfl, _, hgg, _⟩
      · cases hx
      · have : gg = x := by simpa [Value.ownBlock] using hx
        subst this
        rw [e, HI3.out.df] at hgg
        cases hgg
    · exact HI3.out.mod.putObj _ _ (fun hh => by omega)
end Go.Proofs.YtlooaipipmiijaaGreat

namespace Go.Proofs.YtlooaipipmiijaaGreat
set_option linter.unusedVariables false
set_option linter.unusedSimpArgs false
open Go.RowKit
structure EFresh (w : World) (s slots : Nat) (S : List Ent) (q : Nat) (g : HG) (W : World) : Prop where
  obj : EObj W s slots S q g
  bel : Below w.heap.size w W
  foot : ∀ k, g.foot k → w.heap.size ≤ k
  hs : w.heap.size ≤ s
end Go.Proofs.YtlooaipipmiijaaGreat

namespace Go.Proofs.YtlooaipipmiijaaGreat
set_option linter.unusedVariables false
set_option linter.unusedSimpArgs false
open Go.RowKit
structure ENewRow (w : World) (L : List Ent) (v : Value) (wr : World) : Prop where
  own : wr.ownsRow 0 99 2 v L.length (ents L)
  bel : Below w.heap.size w wr
  new : ∀ k, v.ownBlock = some k → w.heap.size ≤ k
structure RRow (w : World) (L : List Ent) (e : Ending) (w' : World) : Prop where
  out : ∃ v, e = .returned v ∧ ENewRow w L v w'
end Go.Proofs.YtlooaipipmiijaaGreat

namespace Go.Proofs.YtlooaipipmiijaaGreat
set_option linter.unusedVariables false
set_option linter.unusedSimpArgs false
open Go.RowKit
theorem storeCells_nil (a : Addr) (P : Program) (w : World) : (storeCells a []).run P w = .ok () w := by
  simp [storeCells]
theorem run_append_nil {P : Program} (w : World) (t ty e : TypeId) (z : Value) (size bytes : Nat) (ht : P.underlying t = some (.slice e)) (hz : (P.info? e).map (fun i => (i.zero, i.size, i.bytes)) = some (some z, size, bytes))
    (base : Option Addr) (n cap : Nat) (h : n ≤ cap) :
    (Builtin.append_ #[t, t] ty #[.slice base n cap, .slice none 0 0]).run P w = .ok (.slice base n cap) w := by
  obtain ⟨i, hi, hz0, hz1, hz2⟩ := info_parts hz
  cases base <;> simp [Builtin.append_, run_underlying ht, sizeOf, typeInfo, hi, Builtin.lenOf, h, Builtin.firstCells, storeCells_nil]
theorem owns_cells {w : World} {e : TypeId} {size g cap n : Nat} {xs : List Value} (h : w.ownsRow 0 e size (.slice (some ⟨g, 0, none⟩) n cap) n xs) : ∀ j u, xs[j]? = some u → w.cell? ((⟨g, 0, none⟩ : Addr).add j) = some u := by
  intro j u hu
  rcases h.2 with ⟨h', _⟩ | ⟨g', cap', cur, h', _, hg, hn, _, hs, htake⟩
  · simp at h'
  · simp only [Value.slice.injEq, Option.some.injEq, Addr.mk.injEq, and_true, true_and] at h'
    obtain ⟨rfl, rfl⟩ := h'
    have hadd : (⟨g, 0, none⟩ : Addr).add j = ⟨g, j, none⟩ := by unfold Addr.add; split <;> simp_all
    have hj : j < xs.length := (List.getElem?_eq_some_iff.1 hu).1
    have hc : cur.toList[j]? = some u := by
      rw [← htake, List.getElem?_take] at hu
      split at hu
      · exact hu
      · cases hu
    rw [hadd]
    have := (show Blk w g e cur.toList from by unfold Blk; rw [hg])
    exact this.cell hc
theorem wpList_appendR {P : Program} {ops : Array Oper} {rest : List Oper} {d : Tmp} {t ty : TypeId} {s x : Operand} {pos : String} {aft : Array Edge} {gd : Option (Nat × Bool)} {a : Act} {Q : Exit → Act → World → Prop} {w : World}
    (hgd : Region.wanted ⟨some d, .call { callee := .builtin .append, args := #[s, x], argTypes := #[t, t] }, ty, pos, aft, gd⟩ (yielded ops a.tmps) = true)
    (e : TypeId) (z : Value) (size bytes : Nat) (ht : P.underlying t = some (.slice e)) (hz : (P.info? e).map (fun i => (i.zero, i.size, i.bytes)) = some (some z, size, bytes))
    (hzs : z.cells.size = size) (hsz : 0 < size) (v : Value) (n : Nat) (xs : List Value) (hs : a.eval s = v) (hown : w.ownsRow 0 e size v n xs)
    (u : Value) (m : Nat) (news : List Value) (hx : a.eval x = u) (hnews : w.ownsRow 0 e size u m news) (h1 : ∀ u ∈ news, u.oneCell' = true)
    (h63 : n + m ≤ maxLen) (hbytes : (n + m) * bytes ≤ 140737488355328)
    (h : ∀ v' w', w'.ownsRow 0 e size v' (n + m) (xs ++ news) → w.grownBy w' v.ownBlock → (∀ k, v'.ownBlock = some k → v.ownBlock = some k ∨ w.heap.size ≤ k) → wpList P ops Q rest (a.put (some d) v') w') :
    wpList P ops Q (⟨some d, .call { callee := .builtin .append, args := #[s, x], argTypes := #[t, t] }, ty, pos, aft, gd⟩ :: rest) a w := by
  have key : ∃ v' w', (Builtin.append_ #[t, t] ty #[v, u]).run P w = .ok v' w' ∧ w'.ownsRow 0 e size v' (n + m) (xs ++ news) ∧ w.grownBy w' v.ownBlock ∧ (∀ k, v'.ownBlock = some k → v.ownBlock = some k ∨ w.heap.size ≤ k) := by
    rcases hnews.2 with ⟨rfl, rfl⟩ | ⟨g, cap, cur, rfl, hr⟩
    · have hn0 : news = [] := List.eq_nil_of_length_eq_zero (by simpa using hnews.1)
      subst hn0
      rcases hown.2 with ⟨rfl, rfl⟩ | ⟨g, cap, cur, rfl, hbg, hgg, hnc, hcm, hcs, htake⟩
      · exact ⟨_, _, run_append_nil w t ty e z size bytes ht hz none 0 0 (Nat.le_refl _), by simpa using hown, World.grownBy.refl _ _, fun k hk => .inl hk⟩
      · exact ⟨_, _, run_append_nil w t ty e z size bytes ht hz _ _ _ hnc, by simpa using hown, World.grownBy.refl _ _, fun k hk => .inl hk⟩
    · exact run_appendB (P := P) w t ty e z size bytes ht hz hzs hsz v n xs hown ⟨g, 0, none⟩ m cap news hnews.1 (owns_cells hnews) h1 h63 hbytes
  obtain ⟨v', w', hr, h2, h3, h4⟩ := key
  refine BigFrame.wpList_want hgd fun K hK => ?_
  unfold Oper.wp execOp
  simp only [resolve, invoke, builtin, Sem.run_bind, Sem.run_pure, Result.andThen_ok, List.map_toArray, List.map_cons, List.map_nil, hs, hx, hr]
  exact hK _ _ (h v' w' h2 h3 h4)
end Go.Proofs.YtlooaipipmiijaaGreat

namespace Go.Proofs.YtlooaipipmiijaaGreat
set_option linter.unusedVariables false
set_option linter.unusedSimpArgs false
open Go.RowKit
theorem owns_empty2 (w : World) (T : TypeId) (size : Nat) : (w.alloc (.cells #[] T)).ownsRow 0 T size (.slice (some ⟨w.heap.size, 0, none⟩) 0 0) 0 [] :=
  ⟨by simp, .inr ⟨w.heap.size, 0, #[], rfl, Nat.zero_le _, heap_alloc_new w _, Nat.le_refl _, by unfold maxLen; omega, by simp, by simp⟩⟩
theorem keepIt2 {p : Prop} (h : Hid p) : p := h.out
theorem ents_one (L : List Ent) : ∀ u ∈ ents L, u.oneCell' = true := by
  intro u hu
  unfold ents at hu
  rw [List.mem_flatMap] at hu
  obtain ⟨e, _, hu⟩ := hu
  simp only [List.mem_cons, List.not_mem_nil, or_false] at hu
  rcases hu with rfl | rfl <;> rfl
set_option maxHeartbeats 1000000 in
set_option maxRecDepth 100000 in
theorem clone_ok (w : World) (v : Value) (L : List Ent) (h : w.ownsRow 0 99 2 v L.length (ents L)) (hl : L.length ≤ 65536) :
    Calls Tryz.prog 109 #[v] w (RRow w L) := by
  have HH := Lib.hid h
  obtain ⟨ao, cap, rfl⟩ := owns_slice h
  have hown := h.alloc (.cells #[] 99)
  have HO := Lib.hid hown
  have HE := Lib.hid (owns_empty2 w 99 2)
  have hb : Below w.heap.size w (w.alloc (.cells #[] 99)) := (Below.refl _ _).alloc (Nat.le_refl _) _
  have HB := Lib.hid hb
  clear h hown hb
  cases ao with
  | none =>
    have h0 : L.length = 0 := by
      rcases HH.out.2 with ⟨_, h⟩ | ⟨g, cap', cur, h, _⟩
      · exact h
      · simp at h
    have hL : L = [] := List.eq_nil_of_length_eq_zero h0
    have hc : cap = 0 := by
      rcases HH.out.2 with ⟨h, _⟩ | ⟨g, cap', cur, h, _⟩
      · injection h
      · simp at h
    subst hL
    subst hc
    clear HH
    clear h0 HO HE HB
    have hq := Lib.run_eql_slice_nil (P := Tryz.prog) w 180 99 none 0 0 0 0 Tryz.underlying180
    go_enter Tryz.func109, Tryz.ntmps109
    go_wp2_with fail
    go_ret
    exact ⟨_, rfl, World.ownsRow_nil _ _ _ _, Below.refl _ _, by simp [Value.ownBlock]⟩
  | some ad =>
    have hq := Lib.run_eql_slice_nil (P := Tryz.prog) w 180 99 (some ad) L.length cap 0 0 Tryz.underlying180
    go_enter Tryz.func109, Tryz.ntmps109
    go_wp2_with (at_builtin; apply keepIt2)
    apply Lib.hid
    refine wpList_appendR rfl 99 (.agg #[.int .i64 0, .int .i64 0]) 2 16 Tryz.underlying180 Tryz.infoEntry rfl (by decide) _ 0 [] rfl HE.out _ L.length _ rfl HO.out (ents_one L) (by unfold maxLen; omega) (by omega) ?_
    intro v2 w2 ho hg hk
    rw [Nat.zero_add, List.nil_append] at ho
    have FIN : Hid (ENewRow w L v2 w2) := by
      have hsz := HB.out.size
      refine ⟨ho, HB.out.trans (((Mod.refl (fun k => some k = some w.heap.size) _).grown hg (fun k hk _ => hk.symm)).below HB.out.size (fun k hk => by injection hk with hk; omega)), fun k e => ?_⟩
      rcases hk k e with h1 | h1
      · cases h1; exact Nat.le_refl _
      · omega
    clear ho hg hk
    go_wp2_with fail
    go_ret
    exact ⟨_, rfl, FIN.out⟩
end Go.Proofs.YtlooaipipmiijaaGreat

namespace Go.Proofs.YtlooaipipmiijaaGreat
set_option linter.unusedVariables false
set_option linter.unusedSimpArgs false
open Go.RowKit
structure NewRow (w : World) (T : TypeId) (size n : Nat) (xs : List Value) (v : Value) (w' : World) : Prop where
  own : w'.ownsRow 0 T size v n xs
  bel : Below w.heap.size w w'
  new : ∀ k, v.ownBlock = some k → w.heap.size ≤ k
def ClR (w : World) (T : TypeId) (size n : Nat) (xs : List Value) (e : Ending) (w' : World) : Prop := ∃ v, e = .returned v ∧ NewRow w T size n xs v w'
theorem Tryz.infoIntC : (Tryz.prog.info? 3).map (fun i => (i.zero, i.size, i.bytes)) = some (some (.int .i64 0), 1, 8) := by kernel_rfl
theorem Tryz.infoU64C : (Tryz.prog.info? 25).map (fun i => (i.zero, i.size, i.bytes)) = some (some (.int .u64 0), 1, 8) := by kernel_rfl
theorem Tryz.infoLive : (Tryz.prog.info? 63).map (fun i => (i.zero, i.size, i.bytes)) = some (some (.agg #[.int .i64 0, .int .u64 0, .int .u64 0, .int .u64 0, .int .i64 0, .int .i64 0, .int .i64 0]), 7, 56) := by kernel_rfl
set_option maxHeartbeats 1000000 in
set_option maxRecDepth 100000 in
theorem clone_int (w : World) (v : Value) (n : Nat) (xs : List Value) (h : w.ownsRow 0 3 1 v n xs) (hl : n ≤ 1048576) (hone : ∀ u ∈ xs, u.oneCell' = true) :
    Calls Tryz.prog 69 #[v] w (ClR w 3 1 n xs) := by
  have HH := Lib.hid h
  have HON := Lib.hid hone
  obtain ⟨ao, cap, rfl⟩ := owns_slice h
  have hown := h.alloc (.cells #[] 3)
  have HO := Lib.hid hown
  have HE := Lib.hid (owns_empty2 w 3 1)
  have hb : Below w.heap.size w (w.alloc (.cells #[] 3)) := (Below.refl _ _).alloc (Nat.le_refl _) _
  have HB := Lib.hid hb
  clear h hown hb hone
  cases ao with
  | none =>
    have h0 : n = 0 := by
      rcases HH.out.2 with ⟨_, h⟩ | ⟨g, cap', cur, h, _⟩
      · exact h
      · simp at h
    have hL : xs = [] := List.eq_nil_of_length_eq_zero (by rw [HH.out.1, h0, Nat.zero_mul])
    have hc : cap = 0 := by
      rcases HH.out.2 with ⟨h, _⟩ | ⟨g, cap', cur, h, _⟩
      · injection h
      · simp at h
    subst hL hc h0
    clear HH
    clear HO HE HB
    have hq := Lib.run_eql_slice_nil (P := Tryz.prog) w 58 3 none 0 0 0 0 Tryz.underlying58
    go_enter Tryz.func69, Tryz.ntmps69
    go_wp2_with fail
    go_ret
    exact ⟨_, rfl, World.ownsRow_nil _ _ _ _, Below.refl _ _, by simp [Value.ownBlock]⟩
  | some ad =>
    have hq := Lib.run_eql_slice_nil (P := Tryz.prog) w 58 3 (some ad) n cap 0 0 Tryz.underlying58
    go_enter Tryz.func69, Tryz.ntmps69
    go_wp2_with (at_builtin; apply keepIt2)
    apply Lib.hid
    refine wpList_appendR rfl 3 (.int .i64 0) 1 8 Tryz.underlying58 Tryz.infoIntC rfl (by decide) _ 0 [] rfl HE.out _ n _ rfl HO.out HON.out (by unfold maxLen; omega) (by omega) ?_
    intro v2 w2 ho hg hk
    rw [Nat.zero_add, List.nil_append] at ho
    have FIN : Hid (NewRow w 3 1 n xs v2 w2) := by
      have hsz := HB.out.size
      refine ⟨ho, HB.out.trans (((Mod.refl (fun k => some k = some w.heap.size) _).grown hg (fun k hk _ => hk.symm)).below HB.out.size (fun k hk => by injection hk with hk; omega)), fun k e => ?_⟩
      rcases hk k e with h1 | h1
      · cases h1; exact Nat.le_refl _
      · omega
    clear ho hg hk
    go_wp2_with fail
    go_ret
    exact ⟨_, rfl, FIN.out⟩
set_option maxHeartbeats 1000000 in
set_option maxRecDepth 100000 in
theorem clone_u64 (w : World) (v : Value) (n : Nat) (xs : List Value) (h : w.ownsRow 0 25 1 v n xs) (hl : n ≤ 1048576) (hone : ∀ u ∈ xs, u.oneCell' = true) :
    Calls Tryz.prog 106 #[v] w (ClR w 25 1 n xs) := by
  have HH := Lib.hid h
  have HON := Lib.hid hone
  obtain ⟨ao, cap, rfl⟩ := owns_slice h
  have hown := h.alloc (.cells #[] 25)
  have HO := Lib.hid hown
  have HE := Lib.hid (owns_empty2 w 25 1)
  have hb : Below w.heap.size w (w.alloc (.cells #[] 25)) := (Below.refl _ _).alloc (Nat.le_refl _) _
  have HB := Lib.hid hb
  clear h hown hb hone
  cases ao with
  | none =>
    have h0 : n = 0 := by
      rcases HH.out.2 with ⟨_, h⟩ | ⟨g, cap', cur, h, _⟩
      · exact h
      · simp at h
    have hL : xs = [] := List.eq_nil_of_length_eq_zero (by rw [HH.out.1, h0, Nat.zero_mul])
    have hc : cap = 0 := by
      rcases HH.out.2 with ⟨h, _⟩ | ⟨g, cap', cur, h, _⟩
      · injection h
      · simp at h
    subst hL hc h0
    clear HH
    clear HO HE HB
    have hq := Lib.run_eql_slice_nil (P := Tryz.prog) w 47 25 none 0 0 0 0 Tryz.underlying47
    go_enter Tryz.func106, Tryz.ntmps106
    go_wp2_with fail
    go_ret
    exact ⟨_, rfl, World.ownsRow_nil _ _ _ _, Below.refl _ _, by simp [Value.ownBlock]⟩
  | some ad =>
    have hq := Lib.run_eql_slice_nil (P := Tryz.prog) w 47 25 (some ad) n cap 0 0 Tryz.underlying47
    go_enter Tryz.func106, Tryz.ntmps106
    go_wp2_with (at_builtin; apply keepIt2)
    apply Lib.hid
    refine wpList_appendR rfl 25 (.int .u64 0) 1 8 Tryz.underlying47 Tryz.infoU64C rfl (by decide) _ 0 [] rfl HE.out _ n _ rfl HO.out HON.out (by unfold maxLen; omega) (by omega) ?_
    intro v2 w2 ho hg hk
    rw [Nat.zero_add, List.nil_append] at ho
    have FIN : Hid (NewRow w 25 1 n xs v2 w2) := by
      have hsz := HB.out.size
      refine ⟨ho, HB.out.trans (((Mod.refl (fun k => some k = some w.heap.size) _).grown hg (fun k hk _ => hk.symm)).below HB.out.size (fun k hk => by injection hk with hk; omega)), fun k e => ?_⟩
      rcases hk k e with h1 | h1
      · cases h1; exact Nat.le_refl _
      · omega
    clear ho hg hk
    go_wp2_with fail
    go_ret
    exact ⟨_, rfl, FIN.out⟩
set_option maxHeartbeats 1000000 in
set_option maxRecDepth 100000 in
theorem clone_live (w : World) (v : Value) (n : Nat) (xs : List Value) (h : w.ownsRow 0 63 7 v n xs) (hl : n ≤ 1048576) (hone : ∀ u ∈ xs, u.oneCell' = true) :
    Calls Tryz.prog 67 #[v] w (ClR w 63 7 n xs) := by
  have HH := Lib.hid h
  have HON := Lib.hid hone
  obtain ⟨ao, cap, rfl⟩ := owns_slice h
  have hown := h.alloc (.cells #[] 63)
  have HO := Lib.hid hown
  have HE := Lib.hid (owns_empty2 w 63 7)
  have hb : Below w.heap.size w (w.alloc (.cells #[] 63)) := (Below.refl _ _).alloc (Nat.le_refl _) _
  have HB := Lib.hid hb
  clear h hown hb hone
  cases ao with
  | none =>
    have h0 : n = 0 := by
      rcases HH.out.2 with ⟨_, h⟩ | ⟨g, cap', cur, h, _⟩
      · exact h
      · simp at h
    have hL : xs = [] := List.eq_nil_of_length_eq_zero (by rw [HH.out.1, h0, Nat.zero_mul])
    have hc : cap = 0 := by
      rcases HH.out.2 with ⟨h, _⟩ | ⟨g, cap', cur, h, _⟩
      · injection h
      · simp at h
    subst hL hc h0
    clear HH
    clear HO HE HB
    have hq := Lib.run_eql_slice_nil (P := Tryz.prog) w 79 63 none 0 0 0 0 Tryz.underlying79
    go_enter Tryz.func67, Tryz.ntmps67
    go_wp2_with fail
    go_ret
    exact ⟨_, rfl, World.ownsRow_nil _ _ _ _, Below.refl _ _, by simp [Value.ownBlock]⟩
  | some ad =>
    have hq := Lib.run_eql_slice_nil (P := Tryz.prog) w 79 63 (some ad) n cap 0 0 Tryz.underlying79
    go_enter Tryz.func67, Tryz.ntmps67
    go_wp2_with (at_builtin; apply keepIt2)
    apply Lib.hid
    refine wpList_appendR rfl 63 (.agg #[.int .i64 0, .int .u64 0, .int .u64 0, .int .u64 0, .int .i64 0, .int .i64 0, .int .i64 0]) 7 56 Tryz.underlying79 Tryz.infoLive rfl (by decide) _ 0 [] rfl HE.out _ n _ rfl HO.out HON.out (by unfold maxLen; omega) (by omega) ?_
    intro v2 w2 ho hg hk
    rw [Nat.zero_add, List.nil_append] at ho
    have FIN : Hid (NewRow w 63 7 n xs v2 w2) := by
      have hsz := HB.out.size
      refine ⟨ho, HB.out.trans (((Mod.refl (fun k => some k = some w.heap.size) _).grown hg (fun k hk _ => hk.symm)).below HB.out.size (fun k hk => by injection hk with hk; omega)), fun k e => ?_⟩
      rcases hk k e with h1 | h1
      · cases h1; exact Nat.le_refl _
      · omega
    clear ho hg hk
    go_wp2_with fail
    go_ret
    exact ⟨_, rfl, FIN.out⟩
end Go.Proofs.YtlooaipipmiijaaGreat
