/- Plain laws of the minimax distance: symmetric, an ultrametric, joined at thresholds. No program in sight. -/
import Derived.Test.YtenhbfbfkcjimaaDoorZMgJ
import Derived.Test.YtenhbfbfkcjimaaDoorZMmIn
namespace Go.Proofs.YtenhbfbfkcjimaaDoor
set_option linter.unusedVariables false
set_option linter.unusedSimpArgs false

theorem comV_symm (t : Tr) (m a b : Nat) : comV t m a b = comV t m b a := by
  unfold comV
  congr 1
  funext c
  exact Bool.and_comm _ _
theorem mV_symm (n : Nat) (l : List Ed) (u v : Int) : mV n l u v = mV n l v u := by
  unfold mV
  by_cases h : (0 ≤ u ∧ u < n) ∧ (0 ≤ v ∧ v < n) ∧ u ≠ v
  · rw [if_pos h, if_pos ⟨h.2.1, h.1, h.2.2.symm⟩, comV_symm]
  · rw [if_neg h, if_neg (fun h' => h ⟨h'.2.1, h'.1, h'.2.2.symm⟩)]
theorem mmV_symm (n : Nat) (l : List Ed) (u v : Int) : mmV n l u v = mmV n l v u := by
  unfold mmV
  by_cases h : (0 ≤ u ∧ u < n) ∧ u = v
  · obtain ⟨h1, rfl⟩ := h; rfl
  · rw [if_neg h, if_neg (fun h' => h ⟨by omega, h'.2.symm⟩), mV_symm]

theorem mV_in {n : Nat} {l : List Ed} {u v : Int} {c : Nat} (h : mV n l u v = some c) : (0 ≤ u ∧ u < n) ∧ (0 ≤ v ∧ v < n) ∧ u ≠ v := by
  unfold mV at h
  split at h
  · assumption
  · cases h
theorem mmV_in {n : Nat} {l : List Ed} {u v d : Int} (h : mmV n l u v = some d) : (0 ≤ u ∧ u < n) ∧ (0 ≤ v ∧ v < n) := by
  unfold mmV at h
  split at h
  · rename_i h1; omega
  · obtain ⟨c, hc, _⟩ := Option.map_eq_some_iff.1 h
    have := mV_in hc
    exact ⟨this.1, this.2.1⟩
theorem mmV_self {n : Nat} {l : List Ed} {u : Int} (h : 0 ≤ u ∧ u < n) : mmV n l u u = some (-9223372036854775808) := by
  unfold mmV
  rw [if_pos ⟨h, rfl⟩]
theorem mmV_ne {n : Nat} {l : List Ed} {u v : Int} (h : u ≠ v) : mmV n l u v = (mV n l u v).map fun c => wI l (fe n l (c - n)) := by
  unfold mmV
  rw [if_neg (fun h' => h h'.2)]
theorem mV_nat {n : Nat} {l : List Ed} {u v : Nat} (hu : u < n) (hv : v < n) (hne : u ≠ v) : mV n l u v = comV (bdL n l) (n + FN n l) u v := by
  unfold mV
  rw [if_pos (by omega)]; rfl

/-- Joined at a threshold: the labels are the same. -/
theorem mm_iff {n : Nat} {l : List Ed} (hg : GOk n l) {u v : Nat} (hu : u < n) (hv : v < n) (hne : u ≠ v) (th : Int) :
    (∃ d, mmV n l u v = some d ∧ d ≤ th) ↔ (foTo n l (cutT l th)).k.getD u 0 = (foTo n l (cutT l th)).k.getD v 0 := by
  rw [com_at hg hu hv hne th, mmV_ne (by omega), mV_nat hu hv hne]
  constructor
  · rintro ⟨d, h1, h2⟩
    obtain ⟨c, hc, rfl⟩ := Option.map_eq_some_iff.1 h1
    exact ⟨c, hc, h2⟩
  · rintro ⟨c, hc, h2⟩
    exact ⟨_, by rw [hc]; rfl, h2⟩

theorem mV_fe {n : Nat} {l : List Ed} (hg : GOk n l) {u v : Int} {c : Nat} (h : mV n l u v = some c) : n ≤ c ∧ c < n + FN n l ∧ fe n l (c - n) < l.length := by
  have hi := mV_in h
  unfold mV at h
  rw [if_pos hi] at h
  obtain ⟨h1, h2⟩ := comV_inner (bdL_tv3 hg) (by omega) (by omega) (by omega) h
  refine ⟨h1, h2, ?_⟩
  exact forL_mem (n := n) (by
    unfold fe
    have hlt : c - n < (forL n l).length := by unfold FN at h2; omega
    rw [List.getD_eq_getElem?_getD, List.getElem?_eq_getElem hlt]
    exact List.getElem_mem hlt)
theorem mmV_lo {n : Nat} {l : List Ed} (hg : GOk n l) (hw : WOk l) {u v d : Int} (h : mmV n l u v = some d) : -9223372036854775808 ≤ d ∧ d ≤ 9223372036854775807 := by
  unfold mmV at h
  split at h
  · injection h with h; omega
  · obtain ⟨c, hc, rfl⟩ := Option.map_eq_some_iff.1 h
    exact hw _ (mV_fe hg hc).2.2

theorem mm_ultra {n : Nat} {l : List Ed} (hg : GOk n l) (hw : WOk l) {a b c x y : Int} (h1 : mmV n l a b = some x) (h2 : mmV n l b c = some y) : ∃ z, mmV n l a c = some z ∧ (z ≤ x ∨ z ≤ y) := by
  obtain ⟨ha, hb⟩ := mmV_in h1
  obtain ⟨_, hc⟩ := mmV_in h2
  by_cases e1 : a = b
  · subst e1; exact ⟨y, h2, .inr (Int.le_refl _)⟩
  by_cases e2 : b = c
  · subst e2; exact ⟨x, h1, .inl (Int.le_refl _)⟩
  by_cases e3 : a = c
  · subst e3
    exact ⟨_, mmV_self ha, .inl (mmV_lo hg hw h1).1⟩
  obtain ⟨a, rfl⟩ := Int.eq_ofNat_of_zero_le ha.1
  obtain ⟨b, rfl⟩ := Int.eq_ofNat_of_zero_le hb.1
  obtain ⟨c, rfl⟩ := Int.eq_ofNat_of_zero_le hc.1
  have k1 := (mm_iff hg (u := a) (v := b) (by omega) (by omega) (by omega) (max x y)).1 ⟨x, h1, by omega⟩
  have k2 := (mm_iff hg (u := b) (v := c) (by omega) (by omega) (by omega) (max x y)).1 ⟨y, h2, by omega⟩
  obtain ⟨z, hz, hle⟩ := (mm_iff hg (u := a) (v := c) (by omega) (by omega) (by omega) (max x y)).2 (k1.trans k2)
  exact ⟨z, hz, by omega⟩

end Go.Proofs.YtenhbfbfkcjimaaDoor
