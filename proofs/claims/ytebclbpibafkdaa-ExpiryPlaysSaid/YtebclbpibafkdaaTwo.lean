/- Two schedules that lie apart. -/
import Derived.Test.YtebclbpibafkdaaExpM
namespace Go.Proofs.Ytebclbpibafkdaa
set_option linter.unusedVariables false
set_option linter.unusedSimpArgs false
open Go.RowKit

structure Two (w : World) (s : Nat) (S : List Ent) (q : Nat) (g : HG) (t : Nat) (T : List Ent) (r : Nat) (h : HG) (W : World) : Prop where
  a : EFresh w s 300 S q g W
  b : EFresh w t 300 T r h W
  ap : ∀ k, (g.foot k ∨ k = s) → (h.foot k ∨ k = t) → False

theorem Two.swap {w : World} {s : Nat} {S : List Ent} {q : Nat} {g : HG} {t : Nat} {T : List Ent} {r : Nat} {h : HG} {W : World} (x : Two w s S q g t T r h W) : Two w t T r h s S q g W :=
  ⟨x.b, x.a, fun k h1 h2 => x.ap k h2 h1⟩

theorem Two.below {w : World} {s : Nat} {S : List Ent} {q : Nat} {g : HG} {t : Nat} {T : List Ent} {r : Nat} {h : HG} {W W' : World} (x : Two w s S q g t T r h W) (k : Below W.heap.size W W') : Two w s S q g t T r h W' :=
  ⟨x.a.below k, x.b.below k, x.ap⟩

theorem Two.step {w : World} {s : Nat} {S : List Ent} {q : Nat} {g : HG} {t : Nat} {T : List Ent} {r : Nat} {h : HG} {W : World} (x : Two w s S q g t T r h W) {S' : List Ent} {g' : HG} {W' : World}
    (ho : EObj W' s 300 S' q g') (hm : Mod g.foot W W') (hf : ∀ k, g'.foot k → g.foot k ∨ W.heap.size ≤ k) : Two w s S' q g' t T r h W' := by
  refine ⟨x.a.step ho hm hf, ⟨?_, ?_, x.b.foot, x.b.hs⟩, ?_⟩
  · exact x.b.obj.mod hm (fun k h1 h2 => x.ap k (.inl h2) (.inl h1)) (fun h2 => x.ap t (.inl h2) (.inr rfl))
  · exact (x.a.step ho hm hf).bel
  · intro k h1 h2
    have hlt := x.b.obj.lt k h2
    rcases h1 with h1 | h1
    · rcases hf k h1 with h1 | h1
      · exact x.ap k (.inl h1) h2
      · omega
    · exact x.ap k (.inr h1) h2

theorem Two.start {w w1 W : World} {s : Nat} {S : List Ent} {q : Nat} {g : HG} {t : Nat} {T : List Ent} {r : Nat} {h : HG} (x : EFresh w s 300 S q g w1) (y : EFresh w1 t 300 T r h W) : Two w s S q g t T r h W := by
  have hsz := x.bel.size
  refine ⟨x.below y.bel, ⟨y.obj, x.bel.trans (y.bel.mono hsz), fun k hk => Nat.le_trans hsz (y.foot k hk), Nat.le_trans hsz y.hs⟩, ?_⟩
  intro k h1 h2
  have hlt := x.obj.lt k h1
  rcases h2 with h2 | h2
  · have := y.foot k h2; omega
  · have := y.hs; omega

end Go.Proofs.Ytebclbpibafkdaa
