/- The way in the forest and its greatest weight; the sides of a distance. No program in sight. -/
import Derived.Test.YtenhbfbfkcjimaaDoorZMmU
import Derived.Test.YtenhbfbfkcjimaaDoorZMgH
namespace Go.Proofs.YtenhbfbfkcjimaaDoor
set_option linter.unusedVariables false
set_option linter.unusedSimpArgs false

theorem out_cut {n : Nat} {l : List Ed} {th : Int} {i : Nat} (h : i ∈ (foTo n l (cutT l th)).out) : InF n l i ∧ wI l i ≤ th := by
  obtain ⟨r, hr⟩ := forL_pre (n := n) (l := l) (cutT_le l th)
  have h1 : InF n l i := by unfold InF; rw [hr]; exact List.mem_append_left _ h
  exact ⟨h1, (mem_take_cut (forL_mem h1)).1 ((fo_sub _ (cutT_le l th)).subset h)⟩

/-- No weight on the way is greater than the distance. -/
theorem path_le {n : Nat} {l : List Ed} (hg : GOk n l) {a b : Nat} {t : Int} (hm : mmV n l a b = some t) (hne : a ≠ b) {p : List Nat} (hp : PathTo n l b a p) : ∀ e ∈ p, wI l e ≤ t := by
  obtain ⟨ha, hb⟩ := mmV_in hm
  have h1 := (mm_iff hg (u := a) (v := b) (by omega) (by omega) hne t).1 ⟨t, hm, Int.le_refl _⟩
  have h2 := ((foTo_forest hg _ (cutT_le l t)).iff (by omega) (by omega)).1 h1
  exact fun e he => (out_cut (path_in hg (fun i hi => (out_cut hi).1) h2 hp e he)).2
/-- One of them is the distance. -/
theorem path_eq {n : Nat} {l : List Ed} (hg : GOk n l) {a b : Nat} {t : Int} (hm : mmV n l a b = some t) (hne : a ≠ b) {p : List Nat} (hp : PathTo n l b a p) : ∃ e ∈ p, wI l e = t := by
  obtain ⟨ha, hb⟩ := mmV_in hm
  apply Classical.byContradiction
  intro hno
  have hlt : ∀ e ∈ p, wI l e ≤ t - 1 := fun e he => by
    have h1 := path_le hg hm hne hp e he
    have h2 : wI l e ≠ t := fun e' => hno ⟨e, he, e'⟩
    omega
  have hc := hp.con (S := fun e => wI l e ≤ t - 1) hlt
  have h1 := (foTo_cut hg (t - 1)).eq_of hc
  obtain ⟨d, h2, h3⟩ := (mm_iff hg (u := a) (v := b) (by omega) (by omega) hne (t - 1)).2 h1
  rw [hm] at h2
  injection h2 with h2
  omega

/-- The greatest weight of the first i edges of the way. -/
def mxTo (l : List Ed) (p : List Nat) (i : Nat) : Int := (p.take i).foldl (fun m e => max m (wI l e)) (-9223372036854775808)
theorem mxTo_succ {l : List Ed} {p : List Nat} {i : Nat} (h : i < p.length) : mxTo l p (i + 1) = max (mxTo l p i) (wI l (p.getD i 0)) := by
  unfold mxTo
  rw [List.take_succ_eq_append_getElem h, List.foldl_append, List.getD_eq_getElem?_getD, List.getElem?_eq_getElem h]; rfl
theorem mx_all {l : List Ed} {t : Int} : ∀ (p : List Nat) (m : Int), m ≤ t → (∀ e ∈ p, wI l e ≤ t) → (m = t ∨ ∃ e ∈ p, wI l e = t) → p.foldl (fun m e => max m (wI l e)) m = t
  | [], m, _, _, h => by
    rcases h with h | ⟨e, he, _⟩
    · exact h
    · cases he
  | e :: p, m, hm, hle, h => by
    show p.foldl _ (max m (wI l e)) = t
    have h1 := hle e (List.mem_cons_self ..)
    refine mx_all p _ (by omega) (fun x hx => hle x (List.mem_cons_of_mem _ hx)) ?_
    rcases h with h | ⟨x, hx, hxt⟩
    · left; omega
    · rcases List.mem_cons.1 hx with rfl | hx
      · left; omega
      · exact .inr ⟨x, hx, hxt⟩
theorem mxw_path {n : Nat} {l : List Ed} (hg : GOk n l) (hw : WOk l) {a b : Nat} {t : Int} (hm : mmV n l a b = some t) (hne : a ≠ b) {p : List Nat} (hp : PathTo n l b a p) : mxTo l p p.length = t := by
  unfold mxTo
  rw [List.take_length]
  exact mx_all p _ (mmV_lo hg hw hm).1 (path_le hg hm hne hp) (.inr (path_eq hg hm hne hp))

/-- A step of the way. -/
theorem PathTo.next {n : Nat} {l : List Ed} {v x e : Nat} {p : List Nat} (h : PathTo n l v x (e :: p)) : ∃ y, InF n l e ∧ Arm l e x y ∧ PathTo n l v y p := by
  cases h with
  | step h1 h2 h3 h4 h5 => exact ⟨_, h1, h2, h5⟩
theorem PathTo.nil_eq {n : Nat} {l : List Ed} {v x : Nat} (h : PathTo n l v x []) : x = v := by cases h; rfl
theorem PathTo.ne_nil {n : Nat} {l : List Ed} {v x : Nat} {p : List Nat} (h : PathTo n l v x p) (hne : x ≠ v) : 0 < p.length := by
  cases p with
  | nil => exact absurd h.nil_eq hne
  | cons e p => simp

/-- Joined with u below the distance. -/
def sdB (n : Nat) (l : List Ed) (u : Nat) (t : Int) (w : Nat) : Bool := decide (w = u) || (match mmV n l u w with | some s => decide (s < t) | none => false)
theorem sdB_iff {n : Nat} {l : List Ed} {u w : Nat} {t : Int} : sdB n l u t w = true ↔ w = u ∨ ∃ s, mmV n l u w = some s ∧ s < t := by
  unfold sdB
  cases h : mmV n l u w with
  | none => simp
  | some s => simp
theorem mm_edge {n : Nat} {l : List Ed} (hg : GOk n l) {i x y : Nat} (hi : i < l.length) (ha : Arm l i x y) : ∃ d, mmV n l x y = some d ∧ d ≤ wI l i := by
  obtain ⟨h1, h2, h3⟩ := ha.ne hg hi
  refine (mm_iff hg h1 h2 h3 (wI l i)).2 ((foTo_cut hg (wI l i)).eq_of (ha.con hi (Int.le_refl _)))
theorem sd_arm {n : Nat} {l : List Ed} (hg : GOk n l) (hw : WOk l) {u x y i : Nat} {t : Int} (hi : i < l.length) (ha : Arm l i x y) (hlt : wI l i < t) (h : sdB n l u t x = true) : sdB n l u t y = true := by
  obtain ⟨d, h1, h2⟩ := mm_edge hg hi ha
  rcases sdB_iff.1 h with rfl | ⟨s, h3, h4⟩
  · exact sdB_iff.2 (.inr ⟨d, h1, by omega⟩)
  · obtain ⟨z, hz, hle⟩ := mm_ultra hg hw h3 h1
    exact sdB_iff.2 (.inr ⟨z, hz, by omega⟩)
theorem sd_edge {n : Nat} {l : List Ed} (hg : GOk n l) (hw : WOk l) {u i : Nat} {t : Int} (hi : i < l.length) (hlt : wI l i < t) : sdB n l u t (uN l i) = sdB n l u t (vN l i) := by
  have a1 : Arm l i (uN l i) (vN l i) := .inl ⟨rfl, rfl⟩
  have h1 := sd_arm hg hw (u := u) (t := t) hi a1 hlt
  have h2 := sd_arm hg hw (u := u) (t := t) hi a1.symm hlt
  cases e1 : sdB n l u t (uN l i) with
  | true => exact (h1 e1).symm
  | false =>
    cases e2 : sdB n l u t (vN l i) with
    | false => rfl
    | true => rw [h2 e2] at e1; cases e1
theorem sd_self (n : Nat) (l : List Ed) (u : Nat) (t : Int) : sdB n l u t u = true := sdB_iff.2 (.inl rfl)
theorem sd_other {n : Nat} {l : List Ed} {u v : Nat} {t : Int} (h : mmV n l u v = some t) (hne : u ≠ v) : sdB n l u t v = false := by
  cases e : sdB n l u t v with
  | false => rfl
  | true =>
    rcases sdB_iff.1 e with h1 | ⟨s, h1, h2⟩
    · exact absurd h1.symm hne
    · rw [h] at h1; injection h1 with h1; omega

/-- The sides of the first v vertices. -/
def sdL (n : Nat) (l : List Ed) (u : Nat) (t : Int) (v : Nat) : List Bool := (List.range v).map (sdB n l u t) ++ List.replicate (n - v) false
theorem sdL_len {n : Nat} {l : List Ed} {u : Nat} {t : Int} {v : Nat} (h : v ≤ n) : (sdL n l u t v).length = n := by unfold sdL; simp; omega
theorem sdL_set {n : Nat} {l : List Ed} {u : Nat} {t : Int} {v : Nat} (h : v < n) : (sdL n l u t v).set v (sdB n l u t v) = sdL n l u t (v + 1) := by
  unfold sdL
  rw [show n - v = (n - (v + 1)) + 1 by omega, List.replicate_succ, List.set_append_right _ _ (by simp), List.range_succ, List.map_append]
  simp
theorem sdL_at {n : Nat} {l : List Ed} {u : Nat} {t : Int} {x : Nat} (h : x < n) : (sdL n l u t n)[x]? = some (sdB n l u t x) := by
  unfold sdL
  rw [List.getElem?_append_left (by simpa using h), List.getElem?_map, List.getElem?_range h]; rfl

end Go.Proofs.YtenhbfbfkcjimaaDoor
