/- Three schedules that lie apart; what becomes of lengths. -/
import Derived.Test.YtebclbpibafkdaaTwiceW
import Derived.Test.YtebclbpibafkdaaECopy
namespace Go.Proofs.Ytebclbpibafkdaa
set_option linter.unusedVariables false
set_option linter.unusedSimpArgs false
open Go.RowKit

theorem u16_of {a : Int} (h : (Lit.int .u16 a).wf = true) : 0 ≤ a ∧ a ≤ 65535 := by
  simp [Lit.wf, IntKind.min, IntKind.max, IntKind.signed, IntKind.bits] at h
  exact ⟨by omega, by omega⟩

def Apart (g : HG) (s : Nat) (h : HG) (t : Nat) : Prop := ∀ k, (g.foot k ∨ k = s) → (h.foot k ∨ k = t) → False

theorem Apart.symm {g : HG} {s : Nat} {h : HG} {t : Nat} (a : Apart g s h t) : Apart h t g s := fun k x y => a k y x

structure Three (w : World) (s : Nat) (S : List Ent) (q : Nat) (g : HG) (t : Nat) (T : List Ent) (r : Nat) (h : HG) (u : Nat) (U : List Ent) (p : Nat) (f : HG) (W : World) : Prop where
  a : EFresh w s 300 S q g W
  b : EFresh w t 300 T r h W
  c : EFresh w u 300 U p f W
  ab : Apart g s h t
  ac : Apart g s f u
  bc : Apart h t f u

theorem Three.rot {w : World} {s : Nat} {S : List Ent} {q : Nat} {g : HG} {t : Nat} {T : List Ent} {r : Nat} {h : HG} {u : Nat} {U : List Ent} {p : Nat} {f : HG} {W : World} (x : Three w s S q g t T r h u U p f W) : Three w t T r h u U p f s S q g W :=
  ⟨x.b, x.c, x.a, x.bc, x.ab.symm, x.ac.symm⟩

theorem Three.swap {w : World} {s : Nat} {S : List Ent} {q : Nat} {g : HG} {t : Nat} {T : List Ent} {r : Nat} {h : HG} {u : Nat} {U : List Ent} {p : Nat} {f : HG} {W : World} (x : Three w s S q g t T r h u U p f W) : Three w t T r h s S q g u U p f W :=
  ⟨x.b, x.a, x.c, x.ab.symm, x.bc, x.ac⟩

theorem Three.two {w : World} {s : Nat} {S : List Ent} {q : Nat} {g : HG} {t : Nat} {T : List Ent} {r : Nat} {h : HG} {u : Nat} {U : List Ent} {p : Nat} {f : HG} {W : World} (x : Three w s S q g t T r h u U p f W) : Two w s S q g t T r h W :=
  ⟨x.a, x.b, x.ab⟩

theorem Three.below {w : World} {s : Nat} {S : List Ent} {q : Nat} {g : HG} {t : Nat} {T : List Ent} {r : Nat} {h : HG} {u : Nat} {U : List Ent} {p : Nat} {f : HG} {W W' : World} (x : Three w s S q g t T r h u U p f W) (k : Below W.heap.size W W') : Three w s S q g t T r h u U p f W' :=
  ⟨x.a.below k, x.b.below k, x.c.below k, x.ab, x.ac, x.bc⟩

theorem EFresh.other {w : World} {s slots : Nat} {S : List Ent} {q : Nat} {g : HG} {W W' : World} (x : EFresh w s slots S q g W) {h : HG} {t : Nat} (ap : Apart h t g s) (hm : Mod h.foot W W') (hh : ∀ k, h.foot k → w.heap.size ≤ k) : EFresh w s slots S q g W' :=
  ⟨x.obj.mod hm (fun k hk e => ap k (.inl e) (.inl hk)) (fun e => ap s (.inl e) (.inr rfl)), x.bel.trans (hm.below x.bel.size hh), x.foot, x.hs⟩

theorem Apart.step {g g' : HG} {s : Nat} {h : HG} {t : Nat} {W : World} (ap : Apart g s h t) (hf : ∀ k, g'.foot k → g.foot k ∨ W.heap.size ≤ k) (hl : ∀ k, (h.foot k ∨ k = t) → k < W.heap.size) : Apart g' s h t := by
  rintro k (h1 | rfl) h2
  · rcases hf k h1 with h3 | h3
    · exact ap k (.inl h3) h2
    · have := hl k h2; omega
  · exact ap k (.inr rfl) h2

theorem Three.step {w : World} {s : Nat} {S : List Ent} {q : Nat} {g : HG} {t : Nat} {T : List Ent} {r : Nat} {h : HG} {u : Nat} {U : List Ent} {p : Nat} {f : HG} {W : World} (x : Three w s S q g t T r h u U p f W) {S' : List Ent} {g' : HG} {W' : World}
    (ho : EObj W' s 300 S' q g') (hm : Mod g.foot W W') (hf : ∀ k, g'.foot k → g.foot k ∨ W.heap.size ≤ k) : Three w s S' q g' t T r h u U p f W' :=
  ⟨x.a.step ho hm hf, x.b.other x.ab hm x.a.foot, x.c.other x.ac hm x.a.foot, x.ab.step hf x.b.obj.lt, x.ac.step hf x.c.obj.lt, x.bc⟩

/-- An older schedule and a new one lie apart. -/
theorem apart_new {w W : World} {s slots : Nat} {S : List Ent} {q : Nat} {g : HG} (x : EObj w s slots S q g) {t slots' : Nat} {T : List Ent} {r : Nat} {h : HG} (y : EFresh w t slots' T r h W) : Apart g s h t := by
  rintro k h1 h2
  have a := x.lt k h1
  rcases h2 with h2 | rfl
  · have := y.foot k h2; omega
  · have := y.hs; omega

theorem EFresh.rebase {w w1 W : World} {s slots : Nat} {S : List Ent} {q : Nat} {g : HG} (x : EFresh w1 s slots S q g W) (hb : Below w.heap.size w w1) : EFresh w s slots S q g W :=
  ⟨x.obj, hb.trans (x.bel.mono hb.size), fun k hk => Nat.le_trans hb.size (x.foot k hk), Nat.le_trans hb.size x.hs⟩

theorem Three.start {w w1 w2 W : World} {s : Nat} {S : List Ent} {q : Nat} {g : HG} {t : Nat} {T : List Ent} {r : Nat} {h : HG} {u : Nat} {U : List Ent} {p : Nat} {f : HG} (x : EFresh w s 300 S q g w1) (y : EFresh w1 t 300 T r h w2) (z : EFresh w2 u 300 U p f W) : Three w s S q g t T r h u U p f W := by
  have x2 := x.below y.bel
  have y2 := y.below z.bel
  have x3 := x2.below z.bel
  exact ⟨x3, y2.rebase x.bel, z.rebase (x.bel.trans (y.bel.mono x.bel.size)), apart_new x.obj y, apart_new x2.obj z, apart_new y.obj z⟩

theorem filter_ins_len {x : Ent} {l : List Ent} {p : Ent → Bool} (h : p x = false) : ((ins x l).filter p).length = (l.filter p).length := by
  have := ((ins_perm x l).filter p).length_eq
  rw [this, List.filter_cons, if_neg (by simp [h])]

theorem filter_del_len {i : Int} {l : List Ent} {p : Ent → Bool} : ((del i l).filter p).length ≤ (l.filter p).length :=
  (List.filter_sublist.filter p).length_le

/-- What is left when all that was set anew is due. -/
theorem copies_len {S : List Ent} {i j at' : Int} (hs : Sorted (ins (j, at') (del j (ins (i, at') (del i S))))) :
    ((ins (j, at') (del j (ins (i, at') (del i S)))).drop (dueN (ins (j, at') (del j (ins (i, at') (del i S)))) at')).length ≤ S.length := by
  rw [due_dropWhile, (due_filter hs at').2, filter_ins_len (by simp [isDue])]
  refine Nat.le_trans filter_del_len ?_
  rw [filter_ins_len (by simp [isDue])]
  exact Nat.le_trans filter_del_len (List.length_filter_le _ _)

end Go.Proofs.Ytebclbpibafkdaa
