/- The schedule's Due: the iterator takes what is due from the heap, the loop collects it. -/
import Derived.Test.YtebclbpibafkdaaExpC
import Derived.Test.YtebclbpibafkdaaRange
namespace Go.Proofs.Ytebclbpibafkdaa
set_option linter.unusedVariables false
set_option linter.unusedSimpArgs false
open Go.RowKit Go.Shelf
attribute [local go_sem] Oper.semAt_some

/-- What holds while the loop runs: j entries have been taken, k have been collected. -/
structure DueInv (w : World) (g0 : HG) (s slots q : Nat) (S : List Ent) (now : Int) (b1 b2 vb L D : Nat) (r : Loop) (j k : Nat) (g : HG) (v : Value) (W : World) : Prop where
  obj : EObj W s slots (S.drop j) q g
  x1 : Blk W b1 34 [.pointer (some ⟨s, 0, none⟩)]
  x2 : Blk W b2 2 [.int .i64 now]
  xv : Blk W vb 40 [v]
  row : W.ownsRow 0 3 1 v k ((S.take k).map fun e => .int .i64 e.1)
  lp : W.heap[L]? = some (.loop r)
  df : W.heap[D]? = some (.deferred (some []))
  mod : Mod g0.foot w W
  foot : ∀ x, g.foot x → g0.foot x ∨ w.heap.size ≤ x
  n1 : ¬ g.foot b1
  n2 : ¬ g.foot b2
  nv : ¬ g.foot vb
  nL : ¬ g.foot L
  nD : ¬ g.foot D
  nr : ∀ x, v.ownBlock = some x → ¬ g.foot x ∧ x ≠ b1 ∧ x ≠ b2 ∧ x ≠ vb ∧ x ≠ s ∧ w.heap.size ≤ x
  e1 : b1 ≠ vb
  e2 : b2 ≠ vb
  es : s ≠ vb
  hvb : w.heap.size ≤ vb
  hL : w.heap.size ≤ L
  hD : w.heap.size ≤ D

/-- The heap takes a step. -/
theorem DueInv.step {w : World} {g0 : HG} {s slots q : Nat} {S : List Ent} {now : Int} {b1 b2 vb L D : Nat} {r : Loop} {j k : Nat} {g : HG} {v : Value} {W : World}
    (h : DueInv w g0 s slots q S now b1 b2 vb L D r j k g v W) {j' : Nat} {g' : HG} {W' : World} (ho : HObj W' q slots (S.drop j') g') (hm : Mod g.foot W W') (hf : ∀ x, g'.foot x → g.foot x ∨ W.heap.size ≤ x) :
    DueInv w g0 s slots q S now b1 b2 vb L D r j' k g' v W' := by
  have hsz := h.mod.size
  have ltL : L < W.heap.size := (Array.getElem?_eq_some_iff.1 h.lp).1
  have ltD : D < W.heap.size := (Array.getElem?_eq_some_iff.1 h.df).1
  have nf : ∀ x, x < W.heap.size → ¬ g.foot x → ¬ g'.foot x := fun x hx hn hh => by
    rcases hf x hh with a | a
    · exact hn a
    · omega
  refine { h with obj := h.obj.step ho hm hf, x1 := h.x1.mod hm h.n1, x2 := h.x2.mod hm h.n2, xv := h.xv.mod hm h.nv, row := owns_same h.row fun x hx => hm.block x (h.row.lt x hx).2 (h.nr x hx).1, lp := ?_, df := ?_, mod := ?_, foot := ?_, n1 := nf _ h.x1.lt h.n1, n2 := nf _ h.x2.lt h.n2, nv := nf _ h.xv.lt h.nv, nL := nf _ ltL h.nL, nD := nf _ ltD h.nD, nr := ?_ }
  · rw [hm.block L ltL h.nL]; exact h.lp
  · rw [hm.block D ltD h.nD]; exact h.df
  · refine h.mod.trans hm fun x hx hf' => ?_
    rcases h.foot x hf' with a | a
    · exact a
    · omega
  · intro x hx
    rcases hf x hx with a | a
    · exact h.foot x a
    · exact .inr (by omega)
  · intro x hx
    have hh := h.nr x hx
    exact ⟨nf _ (h.row.lt x hx).2 hh.1, hh.2⟩

/-- The record turns. -/
theorem DueInv.turn {w : World} {g0 : HG} {s slots q : Nat} {S : List Ent} {now : Int} {b1 b2 vb L D : Nat} {r : Loop} {j k : Nat} {g : HG} {v : Value} {W : World}
    (h : DueInv w g0 s slots q S now b1 b2 vb L D r j k g v W) (r' : Loop) : DueInv w g0 s slots q S now b1 b2 vb L D r' j k g v (W.putObj L (.loop r')) := by
  have ltL : L < W.heap.size := (Array.getElem?_eq_some_iff.1 h.lp).1
  have hm : Mod (fun x => x = L) W (W.putObj L (.loop r')) := (Mod.refl _ _).putObj L _ (fun _ => rfl)
  have nc : ∀ {x : Nat} {T : TypeId} {cs : List Value}, Blk W x T cs → x ≠ L := fun hb e => by
    subst e; unfold Blk at hb; rw [h.lp] at hb; cases hb
  have hDL : D ≠ L := fun e => by have := h.df; rw [e, h.lp] at this; cases this
  have nr : ∀ x, v.ownBlock = some x → x ≠ L := fun x hx e => by
    rcases h.row.2 with ⟨rfl, _⟩ | ⟨g', cap, cur, rfl, _, hg, _⟩
    · cases hx
    · have : g' = x := by simpa [Value.ownBlock] using hx
      subst this
      rw [e, h.lp] at hg
      cases hg
  refine { h with obj := h.obj.mod hm (fun x hx e => h.nL (e ▸ hx)) (nc h.obj.blk), x1 := h.x1.mod hm (nc h.x1), x2 := h.x2.mod hm (nc h.x2), xv := h.xv.mod hm (nc h.xv), row := owns_same h.row fun x hx => World.putObj_heap_other (nr x hx), lp := World.putObj_heap_same ltL, df := (World.putObj_heap_other hDL).trans h.df, mod := ?_ }
  exact h.mod.putObj L _ (fun hh => by have := h.hL; omega)

set_option maxHeartbeats 400000 in
theorem due_any (s : Nat) (now : Int) (w : World) :
    Calls Try.prog 64 #[.pointer (some ⟨s, 0, none⟩), .int .i64 now] w
      (Ret (.func (.func 90) #[] #[.pointer (some ⟨w.heap.size, 0, none⟩), .pointer (some ⟨w.heap.size + 1, 0, none⟩)]) ((w.alloc (.cells #[.pointer (some ⟨s, 0, none⟩)] 34)).alloc (.cells #[.int .i64 now] 2))) := by
  go_enter Try.func64, Try.ntmps64
  go_wp2
  go_ret
  exact ⟨rfl, rfl⟩

def lenAt (W : World) (q : Nat) : Nat := match W.cell? ⟨q, 2, none⟩ with | some (.slice _ n _) => n | _ => 0

theorem lenAt_of {W : World} {q slots : Nat} {S : List Ent} {g : HG} (h : HObj W q slots S g) : lenAt W q = S.length := by
  have c2 := h.rep.hb.cell (i := 2) rfl
  obtain ⟨ao, cp, hiv⟩ := owns_slice h.rep.hi
  rw [hiv, h.hb] at c2
  unfold lenAt
  rw [c2]
  exact h.perm.length_eq.symm

/-- How many entries are due. -/
def dueN (S : List Ent) (now : Int) : Nat := (S.takeWhile fun e => decide (e.2 ≤ now)).length

theorem dueN_le (S : List Ent) (now : Int) : dueN S now ≤ S.length := (List.takeWhile_prefix _).length_le

theorem dueN_at {S : List Ent} {now : Int} {k : Nat} (hk : k ≤ S.length) (hall : ∀ i, i < k → (ent S i).2 ≤ now) (hn : k < S.length → ¬ (ent S k).2 ≤ now) : k = dueN S now := by
  unfold dueN
  induction S generalizing k with
  | nil => simp at hk; simp [hk]
  | cons x l ih =>
    cases k with
    | zero =>
      have := hn (by simp)
      simp only [ent, List.getD_cons_zero] at this
      simp [List.takeWhile_cons, this]
    | succ k =>
      have h0 := hall 0 (by omega)
      simp only [ent, List.getD_cons_zero] at h0
      simp only [List.takeWhile_cons, h0, decide_true, if_true, List.length_cons]
      rw [← ih (k := k) (by simpa using hk) (fun i hi => by have := hall (i + 1) (by omega); simpa [ent] using this) (fun hl => by have := hn (by simpa using hl); simpa [ent] using this)]

set_option maxHeartbeats 2000000 in
set_option maxRecDepth 100000 in
theorem due1_in (n : Nat) (w : World) (g0 : HG) (s slots q : Nat) (S : List Ent) (now : Int) (b1 b2 vb L D : Nat) (r : Loop) (g : HG) (v : Value) (W : World)
    (h : DueInv w g0 s slots q S now b1 b2 vb L D r 0 0 g v W)
    (hY : ∀ k g v W1, k < S.length → DueInv w g0 s slots q S now b1 b2 vb L D r (k + 1) k g v W1 → YieldAt Fence.wide (n - 1) Try.prog L #[.int .i64 (ent S k).1] W1
      fun e W' => e = .returned (.bool true) ∧ ∃ v', DueInv w g0 s slots q S now b1 b2 vb L D r (k + 1) (k + 1) g v' W') :
    CallsIn Fence.wide n Try.prog 90 #[.func (.yield L) #[] #[], .pointer (some ⟨b1, 0, none⟩), .pointer (some ⟨b2, 0, none⟩)] W
      fun e W' => (∃ v, e = .returned v) ∧ ∃ g v, DueInv w g0 s slots q S now b1 b2 vb L D r (dueN S now) (dueN S now) g v W' := by
  have H := Lib.hid h
  have HY := Lib.hid hY
  clear h hY
  refine callsIn_of_wp Try.func90 rfl trivial ?_ rfl
  simp only [Try.ntmps90, List.size_toArray, List.length_cons, List.length_nil, Nat.reduceAdd, Nat.reduceSub, Array.replicate_succ, Array.replicate_zero, List.push_toArray, List.append_toArray, List.nil_append, List.cons_append]
  gi_wp2_with fail
  gi_loopw [4] (fun _ wr => ∃ k g v, k ≤ S.length ∧ DueInv w g0 s slots q S now b1 b2 vb L D r k k g v wr ∧ ∀ i, i < k → (ent S i).2 ≤ now) (fun _ wr => lenAt wr q)
  case atStart => exact ⟨0, g, v, Nat.zero_le _, H.out, fun i hi => by omega⟩
  case round =>
    obtain ⟨k, g, v, hk, hi, hall⟩ := hrel
    have HI := Lib.hid hi
    have HA := Lib.hid hall
    have c1 := hi.x1.cell (i := 0) rfl
    have c2 := hi.x2.cell (i := 0) rfl
    have c3 := hi.obj.blk.cell (i := 1) rfl
    clear hi hall
    by_cases hkl : k < S.length
    · have hd : S.drop k = ent S k :: S.drop (k + 1) := by rw [List.drop_eq_getElem_cons hkl, ent_eq hkl]
      have ho := HI.out.obj.obj
      rw [hd] at ho
      have HO := Lib.hid ho
      have HLN := Lib.hid (lenAt_of HI.out.obj.obj)
      have HDR := Lib.hid hd
      clear ho hd
      generalize hx : ent S k = x at *
      have HX := Lib.hid hx
      clear hx
      gi_wp2_with fail
      refine ⟨trivial, fun h => by simp [Fence.wide] at h, CallsIn.mono (callsIn_wide.2 (min_some wr q slots x _ g HO.out)) ?_⟩
      rintro e w2 ⟨rfl, hb2⟩
      have HI2 := Lib.hid (HI.out.step (HI.out.obj.obj.below hb2) (Mod.of_below hb2) (fun x hx => .inl hx))
      have HI3 := Lib.hid (HI2.out.step (HI2.out.obj.obj.below ((Below.refl _ _).alloc (Nat.le_refl _) (.cells #[.int .i64 x.1, .int .i64 x.2] 28))) (Mod.of_below ((Below.refl _ _).alloc (Nat.le_refl _) (.cells #[.int .i64 x.1, .int .i64 x.2] 28))) (fun x hx => .inl hx))
      have BX := Blk.new w2 28 [.int .i64 x.1, .int .i64 x.2]
      have hlx : w2.heap.size < (w2.alloc (.cells #[.int .i64 x.1, .int .i64 x.2] 28)).heap.size := by simp
      have nfx : ¬ g.foot w2.heap.size := fun hh => by have := HI2.out.obj.obj.rep.foot_lt _ hh; omega
      have HBX := Lib.hid BX
      have d1 := HI3.out.x1.cell (i := 0) rfl
      have d2 := HI3.out.x2.cell (i := 0) rfl
      have d3 := HI3.out.obj.blk.cell (i := 1) rfl
      have d4 := BX.cell (i := 0) rfl
      have d5 := BX.cell (i := 1) rfl
      clear hb2 BX c1 c2 c3
      by_cases hnow : x.2 ≤ now
      · have t1 : decide (now < x.2) = false := by simp; omega
        gi_wp2_with fail
        have ho3 := HI3.out.obj.obj
        rw [HDR.out] at ho3
        refine ⟨trivial, fun h => by simp [Fence.wide] at h, CallsIn.mono (callsIn_wide.2 (pop_some _ q slots x _ g ho3)) ?_⟩
        rintro e w4 ⟨rfl, g4, ho4, hm4, hf4⟩
        have HI4 := Lib.hid (HI3.out.step ho4 hm4 hf4)
        have BX4 := HBX.out.mod hm4 nfx
        have e4 := BX4.cell (i := 0) rfl
        obtain ⟨fn, tmps, assign, body, hy, hR⟩ := HY.out k g4 v w4 hkl HI4.out
        rw [HX.out] at hy
        have HR := Lib.hid hR
        clear ho3 ho4 hm4 hf4 BX4 d1 d2 d3 d4 d5 hR
        gi_wp2_with fail
        refine ⟨fun h => by simp [Fence.wide] at h, HR.out.mono ?_⟩
        rintro e w5 ⟨rfl, v5, hi5⟩
        have HI5 := Lib.hid hi5
        clear hi5 e4 hy
        gi_wp2_with fail
        go_roundw
        case rel => exact ⟨k + 1, g4, v5, hkl, HI5.out, fun i hi => by
          by_cases e : i < k
          · exact HA.out i e
          · obtain rfl : i = k := by omega
            rw [HX.out]; exact hnow⟩
        case measure =>
          rw [lenAt_of HI5.out.obj.obj, HLN.out]
          simp only [List.length_drop]
          omega
      · have t1 : decide (now < x.2) = true := by simp; omega
        gi_wp2_with fail
        refine bodyPost_ret (results_none rfl _ _ _) rfl ?_
        have hkk := dueN_at hk HA.out (fun _ => by rw [HX.out]; omega)
        rw [← hkk]
        exact ⟨⟨_, rfl⟩, g, v, HI3.out⟩
    · have hd : S.drop k = [] := List.drop_of_length_le (by omega)
      have ho := HI.out.obj.obj
      rw [hd] at ho
      have HO := Lib.hid ho
      clear ho hd
      gi_wp2_with fail
      refine ⟨trivial, fun h => by simp [Fence.wide] at h, CallsIn.mono (callsIn_wide.2 (min_empty wr q slots g HO.out)) ?_⟩
      rintro e w2 ⟨rfl, hb2⟩
      have HI2 := Lib.hid (HI.out.step (HI.out.obj.obj.below hb2) (Mod.of_below hb2) (fun x hx => .inl hx))
      have HI3 := Lib.hid (HI2.out.step (HI2.out.obj.obj.below ((Below.refl _ _).alloc (Nat.le_refl _) (.cells #[.int .i64 0, .int .i64 0] 28))) (Mod.of_below ((Below.refl _ _).alloc (Nat.le_refl _) (.cells #[.int .i64 0, .int .i64 0] 28))) (fun x hx => .inl hx))
      clear hb2 c1 c2 c3
      gi_wp2_with fail
      refine bodyPost_ret (results_none rfl _ _ _) rfl ?_
      have hkk := dueN_at hk HA.out (fun h => absurd h hkl)
      rw [← hkk]
      exact ⟨⟨_, rfl⟩, g, v, HI3.out⟩

end Go.Proofs.Ytebclbpibafkdaa
