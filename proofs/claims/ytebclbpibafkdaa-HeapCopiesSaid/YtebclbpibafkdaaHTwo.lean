/- Heaps that were made since w; two of them; rows of entries beside them. -/
import Derived.Test.YtebclbpibafkdaaListW
import Derived.Test.YtebclbpibafkdaaSameH
import Derived.Test.YtebclbpibafkdaaHeapI
namespace Go.Proofs.Ytebclbpibafkdaa
set_option linter.unusedVariables false
set_option linter.unusedSimpArgs false
open Go.RowKit

structure HFresh (w : World) (b slots : Nat) (S : List Ent) (g : HG) (W : World) : Prop where
  obj : HObj W b slots S g
  bel : Below w.heap.size w W
  foot : ∀ k, g.foot k → w.heap.size ≤ k

theorem HFresh.step {w : World} {b slots : Nat} {S : List Ent} {g : HG} {W : World} (h : HFresh w b slots S g W) {S' : List Ent} {g' : HG} {W' : World}
    (ho : HObj W' b slots S' g') (hm : Mod g.foot W W') (hf : ∀ k, g'.foot k → g.foot k ∨ W.heap.size ≤ k) : HFresh w b slots S' g' W' := by
  have hsz := h.bel.size
  refine ⟨ho, h.bel.trans (hm.below hsz h.foot), fun k hk => ?_⟩
  rcases hf k hk with a | a
  · exact h.foot k a
  · omega

theorem HFresh.below {w : World} {b slots : Nat} {S : List Ent} {g : HG} {W W' : World} (h : HFresh w b slots S g W) (k : Below W.heap.size W W') : HFresh w b slots S g W' :=
  ⟨h.obj.below k, h.bel.trans (k.mono h.bel.size), h.foot⟩

theorem HFresh.lt {w : World} {b slots : Nat} {S : List Ent} {g : HG} {W : World} (h : HFresh w b slots S g W) : ∀ k, g.foot k → k < W.heap.size := h.obj.rep.foot_lt

theorem HFresh.other {w : World} {b slots : Nat} {S : List Ent} {g : HG} {W W' : World} (x : HFresh w b slots S g W) {h : HG} (ap : ∀ k, g.foot k → ¬ h.foot k) (hm : Mod h.foot W W') (hh : ∀ k, h.foot k → w.heap.size ≤ k) : HFresh w b slots S g W' :=
  ⟨x.obj.mod hm ap, x.bel.trans (hm.below x.bel.size hh), x.foot⟩

theorem HFresh.rebase {w w1 W : World} {b slots : Nat} {S : List Ent} {g : HG} (x : HFresh w1 b slots S g W) (hb : Below w.heap.size w w1) : HFresh w b slots S g W :=
  ⟨x.obj, hb.trans (x.bel.mono hb.size), fun k hk => Nat.le_trans hb.size (x.foot k hk)⟩

structure HTwo (w : World) (a : Nat) (S : List Ent) (g : HG) (b : Nat) (T : List Ent) (h : HG) (W : World) : Prop where
  a : HFresh w a 300 S g W
  b : HFresh w b 300 T h W
  ap : ∀ k, g.foot k → ¬ h.foot k

theorem HTwo.swap {w : World} {a : Nat} {S : List Ent} {g : HG} {b : Nat} {T : List Ent} {h : HG} {W : World} (x : HTwo w a S g b T h W) : HTwo w b T h a S g W :=
  ⟨x.b, x.a, fun k h1 h2 => x.ap k h2 h1⟩

theorem HTwo.below {w : World} {a : Nat} {S : List Ent} {g : HG} {b : Nat} {T : List Ent} {h : HG} {W W' : World} (x : HTwo w a S g b T h W) (k : Below W.heap.size W W') : HTwo w a S g b T h W' :=
  ⟨x.a.below k, x.b.below k, x.ap⟩

theorem HTwo.step {w : World} {a : Nat} {S : List Ent} {g : HG} {b : Nat} {T : List Ent} {h : HG} {W : World} (x : HTwo w a S g b T h W) {S' : List Ent} {g' : HG} {W' : World}
    (ho : HObj W' a 300 S' g') (hm : Mod g.foot W W') (hf : ∀ k, g'.foot k → g.foot k ∨ W.heap.size ≤ k) : HTwo w a S' g' b T h W' :=
  ⟨x.a.step ho hm hf, x.b.other (fun k h1 h2 => x.ap k h2 h1) hm x.a.foot, fun k h1 h2 => by
    rcases hf k h1 with h3 | h3
    · exact x.ap k h3 h2
    · have := x.b.lt k h2; omega⟩

theorem HTwo.start {w w1 W : World} {a : Nat} {S : List Ent} {g : HG} {b : Nat} {T : List Ent} {h : HG} (x : HFresh w a 300 S g w1) (y : HFresh w1 b 300 T h W) : HTwo w a S g b T h W :=
  ⟨x.below y.bel, y.rebase x.bel, fun k h1 h2 => by have := x.lt k h1; have := y.foot k h2; omega⟩

/-- A row of entries whose block is B or a later one. -/
structure ERowN (B : Nat) (W : World) (v : Value) (L : List Ent) : Prop where
  own : W.ownsRow 0 28 2 v L.length (ents L)
  new : ∀ x, v.ownBlock = some x → B ≤ x

theorem ERowN.of {w W : World} {L : List Ent} {v : Value} (h : ENewRow w L v W) : ERowN w.heap.size W v L := ⟨h.own, h.new⟩

theorem ERowN.mod {B : Nat} {W W' : World} {v : Value} {L : List Ent} (h : ERowN B W v L) {F : Nat → Prop} (hm : Mod F W W') (hF : ∀ k, F k → k < B) : ERowN B W' v L :=
  ⟨owns_same h.own (fun x hx => hm.block x (h.own.lt x hx).2 (fun e => by have := h.new x hx; have := hF x e; omega)), h.new⟩

theorem ERowN.below {B : Nat} {W W' : World} {v : Value} {L : List Ent} (h : ERowN B W v L) (k : Below W.heap.size W W') : ERowN B W' v L :=
  ⟨owns_same h.own (fun x hx => k.block x (h.own.lt x hx).2), h.new⟩

/-- A row beside a heap. -/
structure ERowX (W : World) (v : Value) (L : List Ent) (g : HG) : Prop where
  own : W.ownsRow 0 28 2 v L.length (ents L)
  ap : ∀ x, v.ownBlock = some x → ¬ g.foot x

theorem ERowX.of {w W : World} {b slots : Nat} {S : List Ent} {g : HG} {L : List Ent} {v : Value} (h : ENewRow w L v W) (x : ∀ k, g.foot k → k < w.heap.size) : ERowX W v L g :=
  ⟨h.own, fun k hk e => by have := h.new k hk; have := x k e; omega⟩

theorem ERowX.step {W W' : World} {v : Value} {L : List Ent} {g g' : HG} (x : ERowX W v L g) (hm : Mod g.foot W W') (hf : ∀ k, g'.foot k → g.foot k ∨ W.heap.size ≤ k) : ERowX W' v L g' := by
  refine ⟨owns_same x.own (fun k hk => hm.block k (x.own.lt k hk).2 (x.ap k hk)), fun k hk h2 => ?_⟩
  rcases hf k h2 with h3 | h3
  · exact x.ap k hk h3
  · have := (x.own.lt k hk).2; omega

theorem ERowX.below {W W' : World} {v : Value} {L : List Ent} {g : HG} (x : ERowX W v L g) (k : Below W.heap.size W W') : ERowX W' v L g :=
  ⟨owns_same x.own (fun y hy => k.block y (x.own.lt y hy).2), x.ap⟩

structure HFilled (z : List Int) (w : World) (e : Ending) (w' : World) : Prop where
  out : ∃ b g, HFresh w b 300 (sortE (pairs z)) g w' ∧ e = .returned (.pointer (some ⟨b, 0, none⟩))

theorem hfilled (ao : Option Addr) (len cap b off : Nat) (z : List Int) (back : Bool) (w : World) (hz : InRow .i64 w ao len b off z) (hl : len ≤ 300) :
    Calls Try.prog 22 #[.slice ao len cap, .bool back] w (HFilled z w) :=
  (filled04 ao len cap b off z back w hz hl).mono fun e w' ⟨h1, b, g, h2, h3, h4⟩ => ⟨b, g, ⟨h2, h1, h3⟩, h4⟩

end Go.Proofs.Ytebclbpibafkdaa
