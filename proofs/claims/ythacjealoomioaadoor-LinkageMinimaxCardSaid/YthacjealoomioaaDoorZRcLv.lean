/- recon.Labels. -/
import Derived.Test.YthacjealoomioaaDoorZRcTp
import Derived.Test.YthacjealoomioaaDoorZRound
namespace Go.Proofs.YthacjealoomioaaDoor
set_option linter.unusedVariables false
set_option linter.unusedSimpArgs false
open Go.RowKit Go.Shelf
attribute [local go_sem] Oper.semAt_some

theorem Blk.ne_obj {W : World} {b L : Nat} {T : TypeId} {cs : List Value} {o : Obj} (h : Blk W b T cs) (hL : W.heap[L]? = some o) (ho : o.isCells = false) : b ≠ L := fun e => by
  unfold Blk at h
  rw [e, hL] at h
  injection h with h
  rw [h] at ho
  cases ho

theorem owns_ne_obj {w : World} {e : TypeId} {size n : Nat} {v : Value} {xs : List Value} (h : w.ownsRow 0 e size v n xs) {D : Nat} {o : Obj} (hD : w.heap[D]? = some o) (ho : o.isCells = false) : v.ownBlock ≠ some D := fun e => by
  rcases h.2 with ⟨rfl, _⟩ | ⟨g', cap, cur, rfl, _, hg', _⟩
  · cases e
  · have : g' = D := by simpa [Value.ownBlock] using e
    subst this
    rw [hD] at hg'
    cases hg'
    cases ho

/-- While the nodes are gone over. -/
structure RgInv (w : World) (A : TA) (t : Tr) (tb tb2 vp hp L D m : Nat) (v : Value) (Tv Th Tb : TypeId) (hv : List Value) (r : Loop) (cs : List Value) (W : World) : Prop where
  box : TBox W tb A t
  box2 : TBox W tb2 A t
  tree : TreeAt W A t
  xv : Blk W vp Tv [v]
  xh : Blk W hp Th hv
  xb : W.ownsRow 0 Tb 1 v m cs
  lp : W.heap[L]? = some (.loop r)
  df : W.heap[D]? = some (.deferred (some []))
  bel : Below w.heap.size w W
  nv : ∀ k, v.ownBlock = some k → k ≠ tb ∧ k ≠ tb2 ∧ k ≠ vp ∧ k ≠ hp ∧ w.heap.size ≤ k
  n6 : w.heap.size ≤ L
  aw : ∀ k, A.has t k → k < w.heap.size

theorem RgInv.turn {w : World} {A : TA} {t : Tr} {tb tb2 vp hp L D m : Nat} {v : Value} {Tv Th Tb : TypeId} {hv : List Value} {r : Loop} {cs : List Value} {W : World} (h : RgInv w A t tb tb2 vp hp L D m v Tv Th Tb hv r cs W) (r' : Loop) :
    RgInv w A t tb tb2 vp hp L D m v Tv Th Tb hv r' cs (W.putObj L (.loop r')) := by
  have hm : Mod (fun k => k = L) W (W.putObj L (.loop r')) := (Mod.refl _ _).putObj _ _ (fun _ => rfl)
  have hl := (Array.getElem?_eq_some_iff.1 h.lp).1
  have hdl : D ≠ L := fun e => by have h1 := h.df; rw [e, h.lp] at h1; cases h1
  refine ⟨Blk.mod h.box hm (Blk.ne_obj h.box h.lp rfl), Blk.mod h.box2 hm (Blk.ne_obj h.box2 h.lp rfl), h.tree.mod hm (fun k hk e => by have := h.aw k hk; have := h.n6; omega), h.xv.mod hm (Blk.ne_obj h.xv h.lp rfl), h.xh.mod hm (Blk.ne_obj h.xh h.lp rfl), owns_mod h.xb hm (fun x hx e => owns_ne_obj h.xb h.lp rfl (by rw [← e]; exact hx)), ?_, ?_, ?_, h.nv, h.n6, h.aw⟩
  · simp [World.putObj, hl]
  · rw [hm.block D (Array.getElem?_eq_some_iff.1 h.df).1 hdl]; exact h.df
  · exact bel_mod h.bel hm (fun x e => by rw [e]; exact h.n6)

theorem RgInv.set {w : World} {A : TA} {t : Tr} {tb tb2 vp hp L D m : Nat} {v : Value} {Tv Th Tb : TypeId} {hv : List Value} {r : Loop} {cs : List Value} {W : World} (h : RgInv w A t tb tb2 vp hp L D m v Tv Th Tb hv r cs W) {g cap : Nat} (hvv : v = .slice (some ⟨g, 0, none⟩) m cap) {i : Nat} (hi : i < m) (u : Value) :
    RgInv w A t tb tb2 vp hp L D m v Tv Th Tb hv r (cs.set i u) (W.setCell ⟨g, i, none⟩ u) := by
  subst hvv
  have hm : Mod (fun k => k = g) W (W.setCell ⟨g, i, none⟩ u) := Mod.setCell (Mod.refl (fun k => k = g) W) ⟨g, i, none⟩ (fun _ => rfl) u
  obtain ⟨k1, k2, k3, k4, k5⟩ := h.nv g rfl
  refine ⟨Blk.mod h.box hm (fun e => k1 e.symm), Blk.mod h.box2 hm (fun e => k2 e.symm), h.tree.mod hm (fun k hk e => by have := h.aw k hk; omega), h.xv.mod hm (fun e => k3 e.symm), h.xh.mod hm (fun e => k4 e.symm), owns_set h.xb i (by omega) u, ?_, ?_, ?_, h.nv, h.n6, h.aw⟩
  · rw [hm.block L (Array.getElem?_eq_some_iff.1 h.lp).1 (fun e => owns_ne_obj h.xb h.lp rfl (by rw [e]; rfl))]; exact h.lp
  · rw [hm.block D (Array.getElem?_eq_some_iff.1 h.df).1 (fun e => owns_ne_obj h.xb h.df rfl (by rw [e]; rfl))]; exact h.df
  · exact bel_mod h.bel hm (fun x e => by rw [e]; exact k5)

theorem RgInv.drew {w : World} {A : TA} {t : Tr} {tb tb2 vp hp L D m : Nat} {v : Value} {Tv Th Tb : TypeId} {hv : List Value} {r : Loop} {cs : List Value} {W W2 : World} (h : RgInv w A t tb tb2 vp hp L D m v Tv Th Tb hv r cs W) (hd : DrewOf W W2) :
    RgInv w A t tb tb2 vp hp L D m v Tv Th Tb hv r cs W2 := by
  unfold DrewOf at hd
  subst hd
  exact ⟨h.box, h.box2, h.tree.below ((Below.refl _ _).drew), h.xv, h.xh, h.xb, h.lp, h.df, h.bel.drew, h.nv, h.n6, h.aw⟩

theorem Src.of_take {w : World} {T : TypeId} {vo : Option Addr} {m vc n : Nat} {l : List Nat} (h : w.ownsRow 0 T 1 (.slice vo m vc) m (natV l)) (hn : n ≤ m) : Src w vo n vc 1 (natV (l.take n)) := by
  have hl : l.length = m := by have := h.1; rw [natV_len] at this; omega
  refine ⟨by rw [natV_len, List.length_take]; omega, fun ad he j u hu => ?_, fun he => ?_, natV_one _⟩
  · subst he
    rcases h.2 with ⟨h', _⟩ | ⟨g, cap, cur, h', hb, hg, _⟩
    · simp at h'
    · injection h' with e1 _ e3
      injection e1 with e1
      subst e1 e3
      refine owns_cells h j u ?_
      unfold natV at hu ⊢
      rw [List.map_take, List.getElem?_take] at hu
      split at hu
      · exact hu
      · cases hu
  · rcases h.2 with ⟨h', h0⟩ | ⟨g, cap, cur, h', _⟩
    · injection h' with _ _ e; exact ⟨by omega, by omega⟩
    · injection h' with e; rw [he] at e; cases e

/-- What Labels returns. -/
def labsO (t : Tr) (th : Int) : Option (List Nat) := match lsL t with | none => none | some ls => some (labelsL t t.lv.toNat t.par.length ls th)
theorem labsO_none {t : Tr} {th : Int} (h : lsL t = none) : labsO t th = none := by unfold labsO; rw [h]
theorem labsO_some {t : Tr} {th : Int} {ls : List Nat} (h : lsL t = some ls) : labsO t th = some (labelsL t t.lv.toNat t.par.length ls th) := by unfold labsO; rw [h]

structure LbPost (w : World) (t : Tr) (th : Int) (e : Ending) (w' : World) : Prop where
  bad : labsO t th = none → e = .returned (.tuple #[.slice none 0 0, .int .i64 2])
  ok : ∀ l, labsO t th = some l → ∃ v, e = .returned (.tuple #[v, .int .i64 0]) ∧ w'.ownsRow 0 3 1 v l.length (natV l) ∧ ∀ k, v.ownBlock = some k → w.heap.size ≤ k
  bel : Below w.heap.size w w'

end Go.Proofs.YthacjealoomioaaDoor
