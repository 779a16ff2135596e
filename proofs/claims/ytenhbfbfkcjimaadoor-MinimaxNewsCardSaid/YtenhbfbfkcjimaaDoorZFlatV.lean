/- Structs and arrays of integers that come in by value. No program in sight. -/
import Derived.Test.YtenhbfbfkcjimaaDoorZMgA
namespace Go.Proofs.YtenhbfbfkcjimaaDoor
set_option linter.unusedVariables false
set_option linter.unusedSimpArgs false
open Go.ChangeShapes Go.WideShapes Go.RowKit Go.Deep

theorem okWide_arrayV {P : Program} {w : World} {r : Reach} {base : Nat} {t e : TypeId} {n : Nat} {v : Value} (ht : P.underlying t = some (.array n e)) (h : Value.okWide P w r base t v) : ∃ cs, v = .agg cs ∧ cs.size = P.cellsOf t := by
  simp only [Value.okWide, ht] at h
  obtain ⟨cs, h1, h2, _⟩ := h
  exact ⟨cs, h1, h2⟩

theorem flat_agg {H : Type} {enc : TypeId × Value → H} {P : Program} {w : World} {base : Nat} {spare : Nat → Bool} {held : Bool} {t : TypeId} {ks : List IntKind} {cs : Array Value} {d : DataW H} {p : List MemPlace}
    (hF : Flat P t ks) (h : DataW.Trod enc P w base spare held t (.agg cs) d p) : ∃ zs : List Int, zs.length = ks.length ∧ (Value.agg cs) = .agg (List.zipWith Value.int ks zs).toArray ∧ ∀ (j : Nat) (k : IntKind) (z : Int), ks[j]? = some k → zs[j]? = some z → (Lit.int k z).wf = true := by
  obtain ⟨fuel, hf⟩ := h
  obtain ⟨zs, h1, h2, h3⟩ := hF.2 _ _ _ _ _ _ _ _ hf
  refine ⟨zs, h1, ?_, h3⟩
  rw [← h2]
  simp [Value.cells]

theorem flat_struct {H : Type} {enc : TypeId × Value → H} {P : Program} {w : World} {base : Nat} {spare : Nat → Bool} {held : Bool} {r : Reach} {b0 : Nat} {t : TypeId} {fs : Array Field} {ks : List IntKind} {v : Value} {d : DataW H} {p : List MemPlace}
    (ht : P.underlying t = some (.struct fs)) (hF : Flat P t ks) (hv : Value.okWide P w r b0 t v) (h : DataW.Trod enc P w base spare held t v d p) : ∃ zs : List Int, zs.length = ks.length ∧ v = .agg (List.zipWith Value.int ks zs).toArray ∧ ∀ (j : Nat) (k : IntKind) (z : Int), ks[j]? = some k → zs[j]? = some z → (Lit.int k z).wf = true := by
  obtain ⟨cs, rfl, _⟩ := okWide_struct ht hv
  exact flat_agg hF h

theorem flat_array {H : Type} {enc : TypeId × Value → H} {P : Program} {w : World} {base : Nat} {spare : Nat → Bool} {held : Bool} {r : Reach} {b0 : Nat} {t e : TypeId} {n : Nat} {ks : List IntKind} {v : Value} {d : DataW H} {p : List MemPlace}
    (ht : P.underlying t = some (.array n e)) (hF : Flat P t ks) (hv : Value.okWide P w r b0 t v) (h : DataW.Trod enc P w base spare held t v d p) : ∃ zs : List Int, zs.length = ks.length ∧ v = .agg (List.zipWith Value.int ks zs).toArray ∧ ∀ (j : Nat) (k : IntKind) (z : Int), ks[j]? = some k → zs[j]? = some z → (Lit.int k z).wf = true := by
  obtain ⟨cs, rfl, _⟩ := okWide_arrayV ht hv
  exact flat_agg hF h

/-- Three integers. -/
theorem three {k1 k2 k3 : IntKind} {v : Value} (h : ∃ zs : List Int, zs.length = [k1, k2, k3].length ∧ v = .agg (List.zipWith Value.int [k1, k2, k3] zs).toArray ∧ ∀ (j : Nat) (k : IntKind) (z : Int), [k1, k2, k3][j]? = some k → zs[j]? = some z → (Lit.int k z).wf = true) :
    ∃ x y z : Int, v = .agg #[.int k1 x, .int k2 y, .int k3 z] ∧ (Lit.int k1 x).wf = true ∧ (Lit.int k2 y).wf = true ∧ (Lit.int k3 z).wf = true := by
  obtain ⟨zs, hl, hv, hw⟩ := h
  match zs, hl with
  | [x, y, z], _ => exact ⟨x, y, z, hv, hw 0 _ _ rfl rfl, hw 1 _ _ rfl rfl, hw 2 _ _ rfl rfl⟩

end Go.Proofs.YtenhbfbfkcjimaaDoor
