/- Several texts in one: FlatV, MmIn, MmU. -/
import Derived.Test.YthacjealoomioaaDoorZMgA
import Derived.Test.YthacjealoomioaaDoorZRcA
import Derived.Test.YthacjealoomioaaDoorZMgV
/- Structs and arrays of integers that come in by value. No program in sight. -/
namespace Go.Proofs.YthacjealoomioaaDoor
set_option linter.unusedVariables false
set_option linter.unusedSimpArgs false
open Go.ChangeShapes Go.WideShapes Go.RowKit Go.Deep

theorem okWide_arrayV {P : Program} {w : World} {r : Reach} {base : Nat} {t e : TypeId} {n : Nat} {v : Value} (ht : P.underlying t = some (.array n e)) (h : Value.okWide P w r base t v) : ∃ cs, v = .agg cs ∧ cs.size = P.cellsOf t := by
  simp only [Value.okWide, ht] at h
  obtain ⟨cs, h1, h2, _⟩ := h
  exact ⟨cs, h1, h2⟩

theorem flat_agg {H : Type} {enc : TypeId × Value → H} {P : Program} {w : World} {base : Nat} {spare : Nat → Bool} {held : Bool} {t : TypeId} {ks : List IntKind} {cs : Array Value} {d : DataW H} {p : List MemPlace}
    (hF : Flat P t ks) (h : DataW.Trod enc P w base spare held t (.agg cs) d p) : ∃ zs : List Int, zs.length = ks.length ∧ (Value.agg cs) = .agg (List.zipWith Value.int ks zs).toArray ∧ ∀ (j : Nat) (k : IntKind) (z : Int), ks[j]? = some k → zs[j]? = some z → (Lit.int k z).wf = true := by
  obtain ⟨fuel, hf⟩ := h
  obtain ⟨zs, h1, h2, h3⟩ := hF.2 _ _ _ _ _ _ _ _ hf
  refine ⟨zs, h1, ?_, h3⟩
  rw [← h2]
  simp [Value.cells]

theorem flat_struct {H : Type} {enc : TypeId × Value → H} {P : Program} {w : World} {base : Nat} {spare : Nat → Bool} {held : Bool} {r : Reach} {b0 : Nat} {t : TypeId} {fs : Array Field} {ks : List IntKind} {v : Value} {d : DataW H} {p : List MemPlace}
    (ht : P.underlying t = some (.struct fs)) (hF : Flat P t ks) (hv : Value.okWide P w r b0 t v) (h : DataW.Trod enc P w base spare held t v d p) : ∃ zs : List Int, zs.length = ks.length ∧ v = .agg (List.zipWith Value.int ks zs).toArray ∧ ∀ (j : Nat) (k : IntKind) (z : Int), ks[j]? = some k → zs[j]? = some z → (Lit.int k z).wf = true := by
  obtain ⟨cs, rfl, _⟩ := okWide_struct ht hv
  exact flat_agg hF h

theorem flat_array {H : Type} {enc : TypeId × Value → H} {P : Program} {w : World} {base : Nat} {spare : Nat → Bool} {held : Bool} {r : Reach} {b0 : Nat} {t e : TypeId} {n : Nat} {ks : List IntKind} {v : Value} {d : DataW H} {p : List MemPlace}
    (ht : P.underlying t = some (.array n e)) (hF : Flat P t ks) (hv : Value.okWide P w r b0 t v) (h : DataW.Trod enc P w base spare held t v d p) : ∃ zs : List Int, zs.length = ks.length ∧ v = .agg (List.zipWith Value.int ks zs).toArray ∧ ∀ (j : Nat) (k : IntKind) (z : Int), ks[j]? = some k → zs[j]? = some z → (Lit.int k z).wf = true := by
  obtain ⟨cs, rfl, _⟩ := okWide_arrayV ht hv
  exact flat_agg hF h

/-- Three integers. -/
theorem three {k1 k2 k3 : IntKind} {v : Value} (h : ∃ zs : List Int, zs.length = [k1, k2, k3].length ∧ v = .agg (List.zipWith Value.int [k1, k2, k3] zs).toArray ∧ ∀ (j : Nat) (k : IntKind) (z : Int), [k1, k2, k3][j]? = some k → zs[j]? = some z → (Lit.int k z).wf = true) :
    ∃ x y z : Int, v = .agg #[.int k1 x, .int k2 y, .int k3 z] ∧ (Lit.int k1 x).wf = true ∧ (Lit.int k2 y).wf = true ∧ (Lit.int k3 z).wf = true := by
  obtain ⟨zs, hl, hv, hw⟩ := h
  match zs, hl with
  | [x, y, z], _ => exact ⟨x, y, z, hv, hw 0 _ _ rfl rfl, hw 1 _ _ rfl rfl, hw 2 _ _ rfl rfl⟩

end Go.Proofs.YthacjealoomioaaDoor

/- What comes into the statements of layer 20. -/
namespace Go.Proofs.YthacjealoomioaaDoor
set_option linter.unusedVariables false
set_option linter.unusedSimpArgs false
open Go.RowKit

/-- The weights are such of the type. -/
def WOk (l : List Ed) : Prop := ∀ i, i < l.length → -9223372036854775808 ≤ (EA l i).W ∧ (EA l i).W ≤ 9223372036854775807

theorem i64_b {x : Int} (h : (Lit.int .i64 x).wf = true) : -9223372036854775808 ≤ x ∧ x ≤ 9223372036854775807 := by
  simp [Lit.wf, IntKind.min, IntKind.max, IntKind.signed, IntKind.bits] at h
  exact ⟨by omega, by omega⟩

/-- Edges that came in. -/
def edF (len : Nat) (F : Nat → Nat → Int) : List Ed := (List.range len).map fun i => ⟨F i 0, F i 1, F i 2⟩
theorem edF_at {len : Nat} {F : Nat → Nat → Int} {i : Nat} (hi : i < len) : EA (edF len F) i = ⟨F i 0, F i 1, F i 2⟩ := by
  unfold EA edF
  rw [List.getD_eq_getElem?_getD, List.getElem?_map, List.getElem?_range hi]; rfl
theorem erow_in {w : World} {ao : Option Addr} {len cap b off : Nat} {F : Nat → Nat → Int} (h : FRow w ao len cap b off [.i64, .i64, .i64] F) : ERow w ao len b off (edF len F) := by
  refine ⟨by unfold edF; simp, h.adr, fun i hi => ?_⟩
  rw [edF_at hi]
  exact ⟨h.cell i hi 0 .i64 rfl, h.cell i hi 1 .i64 rfl, h.cell i hi 2 .i64 rfl⟩
theorem wok_in {w : World} {ao : Option Addr} {len cap b off : Nat} {F : Nat → Nat → Int} (h : FRow w ao len cap b off [.i64, .i64, .i64] F) : WOk (edF len F) := by
  intro i hi
  have hi' : i < len := by unfold edF at hi; simpa using hi
  rw [edF_at hi']
  exact i64_b (h.wf i hi' 2 .i64 rfl)

end Go.Proofs.YthacjealoomioaaDoor

/- Plain laws of the minimax distance: symmetric, an ultrametric, joined at thresholds. No program in sight. -/
namespace Go.Proofs.YthacjealoomioaaDoor
set_option linter.unusedVariables false
set_option linter.unusedSimpArgs false

theorem comV_symm (t : Tr) (m a b : Nat) : comV t m a b = comV t m b a := by
  unfold comV
  congr 1
  funext c
  exact Bool.and_comm _ _
theorem mV_symm (n : Nat) (l : List Ed) (u v : Int) : mV n l u v = mV n l v u := by
  unfold mV
  by_cases h : (0 ≤ u ∧ u < n) ∧ (0 ≤ v ∧ v < n) ∧ u ≠ v
  · rw [if_pos h, if_pos ⟨h.2.1, h.1, h.2.2.symm⟩, comV_symm]
  · rw [if_neg h, if_neg (fun h' => h ⟨h'.2.1, h'.1, h'.2.2.symm⟩)]
theorem mmV_symm (n : Nat) (l : List Ed) (u v : Int) : mmV n l u v = mmV n l v u := by
  unfold mmV
  by_cases h : (0 ≤ u ∧ u < n) ∧ u = v
  · obtain ⟨h1, rfl⟩ := h; rfl
  · rw [if_neg h, if_neg (fun h' => h ⟨by omega, h'.2.symm⟩), mV_symm]

theorem mV_in {n : Nat} {l : List Ed} {u v : Int} {c : Nat} (h : mV n l u v = some c) : (0 ≤ u ∧ u < n) ∧ (0 ≤ v ∧ v < n) ∧ u ≠ v := by
  unfold mV at h
  split at h
  · assumption
  · cases h
theorem mmV_in {n : Nat} {l : List Ed} {u v d : Int} (h : mmV n l u v = some d) : (0 ≤ u ∧ u < n) ∧ (0 ≤ v ∧ v < n) := by
  unfold mmV at h
  split at h
  · rename_i h1; omega
  · obtain ⟨c, hc, _⟩ := Option.map_eq_some_iff.1 h
    have := mV_in hc
    exact ⟨this.1, this.2.1⟩
theorem mmV_self {n : Nat} {l : List Ed} {u : Int} (h : 0 ≤ u ∧ u < n) : mmV n l u u = some (-9223372036854775808) := by
  unfold mmV
  rw [if_pos ⟨h, rfl⟩]
theorem mmV_ne {n : Nat} {l : List Ed} {u v : Int} (h : u ≠ v) : mmV n l u v = (mV n l u v).map fun c => wI l (fe n l (c - n)) := by
  unfold mmV
  rw [if_neg (fun h' => h h'.2)]
theorem mV_nat {n : Nat} {l : List Ed} {u v : Nat} (hu : u < n) (hv : v < n) (hne : u ≠ v) : mV n l u v = comV (bdL n l) (n + FN n l) u v := by
  unfold mV
  rw [if_pos (by omega)]; rfl

/-- Joined at a threshold: the labels are the same. -/
theorem mm_iff {n : Nat} {l : List Ed} (hg : GOk n l) {u v : Nat} (hu : u < n) (hv : v < n) (hne : u ≠ v) (th : Int) :
    (∃ d, mmV n l u v = some d ∧ d ≤ th) ↔ (foTo n l (cutT l th)).k.getD u 0 = (foTo n l (cutT l th)).k.getD v 0 := by
  rw [com_at hg hu hv hne th, mmV_ne (by omega), mV_nat hu hv hne]
  constructor
  · rintro ⟨d, h1, h2⟩
    obtain ⟨c, hc, rfl⟩ := Option.map_eq_some_iff.1 h1
    exact ⟨c, hc, h2⟩
  · rintro ⟨c, hc, h2⟩
    exact ⟨_, by rw [hc]; rfl, h2⟩

theorem mV_fe {n : Nat} {l : List Ed} (hg : GOk n l) {u v : Int} {c : Nat} (h : mV n l u v = some c) : n ≤ c ∧ c < n + FN n l ∧ fe n l (c - n) < l.length := by
  have hi := mV_in h
  unfold mV at h
  rw [if_pos hi] at h
  obtain ⟨h1, h2⟩ := comV_inner (bdL_tv3 hg) (by omega) (by omega) (by omega) h
  refine ⟨h1, h2, ?_⟩
  exact forL_mem (n := n) (by
    unfold fe
    have hlt : c - n < (forL n l).length := by unfold FN at h2; omega
    rw [List.getD_eq_getElem?_getD, List.getElem?_eq_getElem hlt]
    exact List.getElem_mem hlt)
theorem mmV_lo {n : Nat} {l : List Ed} (hg : GOk n l) (hw : WOk l) {u v d : Int} (h : mmV n l u v = some d) : -9223372036854775808 ≤ d ∧ d ≤ 9223372036854775807 := by
  unfold mmV at h
  split at h
  · injection h with h; omega
  · obtain ⟨c, hc, rfl⟩ := Option.map_eq_some_iff.1 h
    exact hw _ (mV_fe hg hc).2.2

theorem mm_ultra {n : Nat} {l : List Ed} (hg : GOk n l) (hw : WOk l) {a b c x y : Int} (h1 : mmV n l a b = some x) (h2 : mmV n l b c = some y) : ∃ z, mmV n l a c = some z ∧ (z ≤ x ∨ z ≤ y) := by
  obtain ⟨ha, hb⟩ := mmV_in h1
  obtain ⟨_, hc⟩ := mmV_in h2
  by_cases e1 : a = b
  · subst e1; exact ⟨y, h2, .inr (Int.le_refl _)⟩
  by_cases e2 : b = c
  · subst e2; exact ⟨x, h1, .inl (Int.le_refl _)⟩
  by_cases e3 : a = c
  · subst e3
    exact ⟨_, mmV_self ha, .inl (mmV_lo hg hw h1).1⟩
  obtain ⟨a, rfl⟩ := Int.eq_ofNat_of_zero_le ha.1
  obtain ⟨b, rfl⟩ := Int.eq_ofNat_of_zero_le hb.1
  obtain ⟨c, rfl⟩ := Int.eq_ofNat_of_zero_le hc.1
  have k1 := (mm_iff hg (u := a) (v := b) (by omega) (by omega) (by omega) (max x y)).1 ⟨x, h1, by omega⟩
  have k2 := (mm_iff hg (u := b) (v := c) (by omega) (by omega) (by omega) (max x y)).1 ⟨y, h2, by omega⟩
  obtain ⟨z, hz, hle⟩ := (mm_iff hg (u := a) (v := c) (by omega) (by omega) (by omega) (max x y)).2 (k1.trans k2)
  exact ⟨z, hz, by omega⟩

end Go.Proofs.YthacjealoomioaaDoor
