/- A heap's copy: the state of its making. -/
import Derived.Test.YtebclbpibafkdaaClone
import Derived.Test.YtebclbpibafkdaaWhole
namespace Go.Proofs.Ytebclbpibafkdaa
set_option linter.unusedVariables false
set_option linter.unusedSimpArgs false
open Go.RowKit

def plTo (pl : Nat → Nat) (i : Nat) : Nat → Nat := fun x => if x < 64 * i then pl x else 0

/-- The new heap, before its places are copied; its own address is not noted yet. -/
structure CStart (w : World) (g : HG) (c : Nat) (v : Value) (pb : Nat) (W : World) : Prop where
  blk : Blk W c 90 [.pointer none, .int .i64 (g.slots : Nat), v, .slice (some ⟨pb, 0, none⟩) g.np g.np]
  row : W.ownsRow 0 28 2 v g.it.length (ents g.it)
  prow : Blk W pb 111 (List.replicate g.np (.pointer none))
  bel : Below w.heap.size w W
  nc : w.heap.size ≤ c
  nv : ∀ k, v.ownBlock = some k → w.heap.size ≤ k ∧ k ≠ c ∧ k ≠ pb
  npb : w.heap.size ≤ pb
  ne : c ≠ pb

structure CInv (w : World) (g : HG) (c i : Nat) (g' : HG) (W : World) : Prop where
  rep : HRep W g'
  bel : Below w.heap.size w W
  it : g'.it = g.it
  slots : g'.slots = g.slots
  b : g'.b = c
  pl : g'.pl = plTo g.pl i
  foot : ∀ k, g'.foot k → w.heap.size ≤ k

theorem CInv.np {w W : World} {g g' : HG} {c i : Nat} (h : CInv w g c i g' W) : g'.np = g.np := by unfold HG.np; rw [h.slots]

theorem CStart.inv {w W : World} {g : HG} {c : Nat} {v : Value} {pb : Nat} (h : CStart w g c v pb W) (hs : g.slots ≤ 65536) :
    CInv w g c 0 ⟨c, g.slots, v, g.it, pb, fun _ => none, fun _ => 0⟩ (W.setCell ⟨c, 0, none⟩ (.pointer (some ⟨c, 0, none⟩))) := by
  have hrow : (W.setCell ⟨c, 0, none⟩ (.pointer (some ⟨c, 0, none⟩))).ownsRow 0 28 2 v g.it.length (ents g.it) :=
    owns_same h.row (fun k hk => Below.heap_setCell _ _ _ _ (h.nv k hk).2.1)
  refine ⟨⟨h.blk.set 0 _, hrow, ?_, fun j q _ e => (by cases e), fun j _ _ k _ => rfl, hs, h.ne, fun e => (h.nv c e).2.1 rfl, fun e => (h.nv pb e).2.2 rfl, fun j q _ e => (by cases e), fun j j' q _ _ e => (by cases e)⟩, ?_, rfl, rfl, rfl, ?_, ?_⟩
  · have e : tbRow (HG.np ⟨c, g.slots, v, g.it, pb, fun _ => none, fun _ => 0⟩) (fun _ => none) = List.replicate g.np (.pointer none) := by
      apply List.ext_getElem?
      intro j
      unfold tbRow HG.np
      by_cases hj : j < (g.slots + 63) / 64
      · simp [hj]
      · simp [hj]
    show Blk _ pb _ (tbRow _ _)
    rw [e]
    exact h.prow.other _ _ (fun e => h.ne e.symm)
  · exact h.bel.trans (((Mod.refl (fun k => k = c) W).setCell _ (fun _ => rfl) _).below h.bel.size (fun k hk => by rw [hk]; exact h.nc))
  · funext x; unfold plTo; simp
  · rintro k (hk | hk | hk | ⟨j, _, hk⟩)
    · rw [hk]; exact h.nc
    · exact (h.nv k hk).1
    · rw [hk]; exact h.npb
    · cases hk

/-- A place without a block: nothing to be copied. -/
theorem CInv.skip {w W : World} {g g' : HG} {c i : Nat} (h : CInv w g c i g' W) (hz : ∀ k, k < 64 → g.pl (64 * i + k) = 0) : CInv w g c (i + 1) g' W := by
  refine ⟨h.rep, h.bel, h.it, h.slots, h.b, ?_, h.foot⟩
  rw [h.pl]
  funext x
  unfold plTo
  by_cases h1 : x < 64 * i
  · rw [if_pos h1, if_pos (by omega)]
  · rw [if_neg h1]
    by_cases h2 : x < 64 * (i + 1)
    · rw [if_pos h2]
      have := hz (x - 64 * i) (by omega)
      rw [show 64 * i + (x - 64 * i) = x by omega] at this
      exact this.symm
    · rw [if_neg h2]

theorem plRow_plTo (pl : Nat → Nat) (i : Nat) : plRow (plTo pl (i + 1)) i = plRow pl i := by
  unfold plRow
  apply List.map_congr_left
  intro k hk
  rw [List.mem_range] at hk
  unfold plTo
  rw [if_pos (by omega)]

theorem plRow_plTo_other (pl : Nat → Nat) (i j : Nat) (h : j ≠ i) : plRow (plTo pl (i + 1)) j = plRow (plTo pl i) j := by
  unfold plRow
  apply List.map_congr_left
  intro k hk
  rw [List.mem_range] at hk
  unfold plTo
  by_cases h1 : j < i
  · rw [if_pos (by omega), if_pos (by omega)]
  · rw [if_neg (by omega), if_neg (by omega)]

/-- A place's block is copied. -/
theorem CInv.copied {w W W2 : World} {g g' : HG} {c i : Nat} (h : CInv w g c i g' W) (hi : i < g.np) (hb : Below W.heap.size W W2) (B : Blk W2 W.heap.size 113 (plRow g.pl i)) :
    CInv w g c (i + 1) { g' with tb := fun k => if k = i then some W.heap.size else g'.tb k, pl := plTo g.pl (i + 1) } (W2.setCell ⟨g'.pb, i, none⟩ (.pointer (some ⟨W.heap.size, 0, none⟩))) := by
  have hr := h.rep.below hb
  have hlt := h.rep.foot_lt
  have hpb : g'.pb < W.heap.size := hlt _ (.inr (.inr (.inl rfl)))
  have hsz := h.bel.size
  refine ⟨⟨hr.hb.other _ _ h.rep.d1, ?_, ?_, ?_, ?_, hr.hs, hr.d1, hr.d2, hr.d3, ?_, ?_⟩, ?_, h.it, h.slots, h.b, rfl, ?_⟩
  · exact owns_same hr.hi (fun k hk => Below.heap_setCell _ _ _ _ (fun e => hr.d3 (by have e' : k = g'.pb := e; rw [← e']; exact hk)))
  · have := hr.hp.set i (.pointer (some ⟨W.heap.size, 0, none⟩))
    rw [tbRow_set] at this
    exact this
  · intro j q hj e
    simp only at e
    by_cases ej : j = i
    · subst ej
      rw [if_pos rfl] at e
      injection e with e
      subst e
      show Blk _ _ _ (plRow (plTo g.pl (j + 1)) j)
      rw [plRow_plTo]
      exact B.other _ _ (by simp only; omega)
    · rw [if_neg ej] at e
      have h1 := hr.ht j q hj e
      rw [h.pl] at h1
      show Blk _ _ _ (plRow (plTo g.pl (i + 1)) j)
      rw [plRow_plTo_other _ _ _ ej]
      exact h1.other _ _ (hr.d4 j q hj e).2.1
  · intro j hj e k hk
    simp only at e ⊢
    by_cases ej : j = i
    · subst ej; rw [if_pos rfl] at e; cases e
    · rw [if_neg ej] at e
      have h1 := hr.hn j hj e k hk
      rw [h.pl] at h1
      unfold plTo at h1 ⊢
      by_cases h2 : j < i
      · rw [if_pos (by omega)] at h1 ⊢; exact h1
      · rw [if_neg (by omega)]
  · intro j q hj e
    simp only at e ⊢
    by_cases ej : j = i
    · subst ej
      rw [if_pos rfl] at e
      injection e with e
      subst e
      refine ⟨fun e => ?_, fun e => ?_, fun e => ?_⟩
      · have := hlt _ (.inl rfl : g'.foot g'.b); omega
      · omega
      · have := hlt _ (.inr (.inl e) : g'.foot _); omega
    · rw [if_neg ej] at e
      exact hr.d4 j q hj e
  · intro j j' q hj hj' e e'
    simp only at e e'
    by_cases ej : j = i <;> by_cases ej' : j' = i
    · omega
    · rw [if_pos ej] at e; rw [if_neg ej'] at e'
      injection e with e
      have := hlt _ (.inr (.inr (.inr ⟨j', hj', e'⟩)) : g'.foot q)
      omega
    · rw [if_neg ej] at e; rw [if_pos ej'] at e'
      injection e' with e'
      have := hlt _ (.inr (.inr (.inr ⟨j, hj, e⟩)) : g'.foot q)
      omega
    · rw [if_neg ej] at e; rw [if_neg ej'] at e'
      exact hr.d5 j j' q hj hj' e e'
  · have hp := h.foot g'.pb (.inr (.inr (.inl rfl)))
    exact (h.bel.trans (hb.mono hsz)).trans (((Mod.refl (fun k => k = g'.pb) W2).setCell _ (fun _ => rfl) _).below (Nat.le_trans hsz hb.size) (fun k hk => by rw [hk]; exact hp))
  · rintro k (hk | hk | hk | ⟨j, hj, hk⟩)
    · exact h.foot k (.inl hk)
    · exact h.foot k (.inr (.inl hk))
    · exact h.foot k (.inr (.inr (.inl hk)))
    · simp only at hk
      by_cases ej : j = i
      · rw [if_pos ej] at hk; injection hk with hk; omega
      · rw [if_neg ej] at hk; exact h.foot k (.inr (.inr (.inr ⟨j, hj, hk⟩)))

/-- All places are copied. -/
theorem CInv.done {w W : World} {g g' : HG} {c slots b : Nat} {S : List Ent} (h : CInv w g c g.np g' W) (ho : HObj w b slots S g) : HObj W c slots S g' := by
  have hs := ho.hs
  have hpl : ∀ x, x < slots → g'.pl x = g.pl x := by
    intro x hx
    rw [h.pl]
    unfold plTo HG.np
    rw [if_pos (by omega)]
  refine ⟨h.rep, ⟨fun p hp => ?_, fun i hi hne => ?_⟩, by rw [h.it]; exact ho.heapy, h.b, h.slots.trans ho.hs, by rw [h.it]; exact ho.perm, ho.sorted⟩
  · rw [h.it] at hp ⊢
    obtain ⟨i, h1, h2, h3⟩ := ho.good.pos p hp
    exact ⟨i, h1, by rw [h.slots]; exact h2, by rw [hpl i (by omega)]; exact h3⟩
  · rw [h.slots] at hi
    rw [hpl i (by omega)] at hne ⊢
    obtain ⟨p, h1, h2, h3⟩ := ho.good.back i hi hne
    exact ⟨p, by rw [h.it]; exact h1, h2, by rw [h.it]; exact h3⟩

theorem cstartA {w w1 : World} {g : HG} {v : Value} {np : Nat} (hnp : g.np = np) (h : ENewRow w.drew g.it v w1) :
    CStart w g (w1.heap.size + 1) v w1.heap.size ((w1.alloc (.cells (List.replicate np (.pointer none)).toArray 111)).alloc (.cells #[.pointer none, .int .i64 (g.slots : Nat), v, .slice (some ⟨w1.heap.size, 0, none⟩) np np] 90)) := by
  subst hnp
  have hb : Below w.heap.size w w1 := (Below.refl _ _).drew.trans h.bel
  have hs := hb.size
  refine ⟨Blk.new' (w1.alloc _) _ [_, _, _, _] (by simp), (h.own.alloc _).alloc _, (Blk.new w1 _ _).alloc _, (hb.alloc hs _).alloc (by simp; omega) _, by omega, fun k hk => ?_, hs, by omega⟩
  have h1 := h.new k hk
  have h2 := (h.own.lt k hk).2
  have h3 : w.drew.heap.size = w.heap.size := rfl
  exact ⟨by omega, by omega, by omega⟩

theorem cstartB {w w1 : World} {g : HG} {v : Value} {np : Nat} (hnp : g.np = np) (h : ENewRow (w.drew.alloc (.cells (List.replicate np (.pointer none)).toArray 111)) g.it v w1) :
    CStart w g w1.heap.size v w.heap.size (w1.alloc (.cells #[.pointer none, .int .i64 (g.slots : Nat), v, .slice (some ⟨w.heap.size, 0, none⟩) np np] 90)) := by
  subst hnp
  have h0 : Below w.heap.size w (w.drew.alloc (.cells (List.replicate g.np (.pointer none)).toArray 111)) := (Below.refl _ _).drew.alloc (Nat.le_refl _) _
  have hb : Below w.heap.size w w1 := h0.trans (h.bel.mono h0.size)
  have hs := hb.size
  have hs1 := h.bel.size
  have h4 : (w.drew.alloc (.cells (List.replicate g.np (.pointer none)).toArray 111)).heap.size = w.heap.size + 1 := by simp
  have B0 : Blk (w.drew.alloc (.cells (List.replicate g.np (.pointer none)).toArray 111)) w.heap.size 111 (List.replicate g.np (.pointer none)) := Blk.new w.drew _ _
  refine ⟨Blk.new w1 _ [_, _, _, _], h.own.alloc _, (B0.below h.bel B0.lt).alloc _, hb.alloc hs _, hs, fun k hk => ?_, Nat.le_refl _, by omega⟩
  have h1 := h.new k hk
  have h2 := (h.own.lt k hk).2
  exact ⟨by omega, by omega, by omega⟩

end Go.Proofs.Ytebclbpibafkdaa
