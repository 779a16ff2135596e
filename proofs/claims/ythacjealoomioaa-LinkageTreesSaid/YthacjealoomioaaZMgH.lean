/- Several texts in one: PaP. -/
import Derived.Test.YthacjealoomioaaZMgB
/- Paths in a forest: each edge is a bridge, the way to a vertex is one. No program in sight. -/
namespace Go.Proofs.Ythacjealoomioaa
set_option linter.unusedVariables false
set_option linter.unusedSimpArgs false

/-- The edges of a list give labels; each edge makes at most one component of two. -/
theorem lab_list {n : Nat} {l : List Ed} (hg : GOk n l) : ∀ E : List Nat, (∀ i ∈ E, i < l.length) → ∃ k, IsLab n (EdR l fun i => i ∈ E) k ∧ n ≤ roots n k + E.length
  | [], _ => ⟨List.range n, (IsLab.start n).congr (fun a b => ⟨fun h => h.elim, fun ⟨i, _, h, _⟩ => by cases h⟩), by rw [roots_start]; exact Nat.le_refl _⟩
  | e :: E, h => by
    obtain ⟨k, hk, hr⟩ := lab_list hg E (fun i hi => h i (List.mem_cons_of_mem _ hi))
    have he := h e (List.mem_cons_self ..)
    obtain ⟨h1, h2, _⟩ := hg.uv he
    refine ⟨unK k (uN l e) (vN l e), (hk.join h1 h2).congr (fun a b => ?_), ?_⟩
    · constructor
      · rintro (⟨i, a1, a2, a3⟩ | ⟨rfl, rfl⟩)
        · exact ⟨i, a1, List.mem_cons_of_mem _ a2, a3⟩
        · exact ⟨e, he, List.mem_cons_self .., rfl, rfl⟩
      · rintro ⟨i, a1, a2, a3, a4⟩
        rcases List.mem_cons.1 a2 with rfl | a2
        · exact .inr ⟨a3, a4⟩
        · exact .inl ⟨i, a1, a2, a3, a4⟩
    · unfold unK
      rw [List.length_cons]
      split
      · omega
      · rename_i hne
        have hok := hk.kok
        obtain ⟨b1, b2, b3, b4⟩ := lohi (s := ⟨k, []⟩) hg hok he hne
        have := roots_join hok (Nat.lt_trans b1 b2) b2 b3 b4 b1
        have e : roots n k = roots n (relN k (min (k.getD (uN l e) 0) (k.getD (vN l e) 0)) (max (k.getD (uN l e) 0) (k.getD (vN l e) 0))) + 1 := this
        omega

/-- The edges of the forest give the labels. -/
theorem foTo_forest {n : Nat} {l : List Ed} (hg : GOk n l) : ∀ t, t ≤ l.length → IsLab n (EdR l fun i => i ∈ (foTo n l t).out) (foTo n l t).k
  | 0, _ => (IsLab.start n).congr (fun a b => ⟨fun h => h.elim, fun ⟨i, _, h, _⟩ => by cases h⟩)
  | t + 1, h => by
    have ih := foTo_forest hg t (by omega)
    have hi := ord_at (l := l) (t := t) h
    obtain ⟨h1, h2, _⟩ := hg.uv hi
    have hk : (foTo n l (t + 1)).k = unK (foTo n l t).k (uN l ((ordL l).getD t 0)) (vN l ((ordL l).getD t 0)) := Fo.step_un
    rw [hk]
    have ho : (foTo n l (t + 1)).out = if (foTo n l t).k.getD (uN l ((ordL l).getD t 0)) 0 = (foTo n l t).k.getD (vN l ((ordL l).getD t 0)) 0 then (foTo n l t).out else (foTo n l t).out ++ [(ordL l).getD t 0] := by
      show (Fo.step l _ _).out = _
      unfold Fo.step
      split <;> rfl
    rw [ho]
    split
    · rename_i e
      unfold unK
      rw [if_pos e]
      exact ih
    · refine (ih.join h1 h2).congr (fun a b => ?_)
      constructor
      · rintro (⟨i, a1, a2, a3⟩ | ⟨rfl, rfl⟩)
        · exact ⟨i, a1, List.mem_append_left _ a2, a3⟩
        · exact ⟨_, hi, List.mem_append_right _ (List.mem_singleton.2 rfl), rfl, rfl⟩
      · rintro ⟨i, a1, a2, a3, a4⟩
        rcases List.mem_append.1 a2 with a2 | a2
        · exact .inl ⟨i, a1, a2, a3, a4⟩
        · rw [List.mem_singleton] at a2
          subst a2
          exact .inr ⟨a3, a4⟩

def InF (n : Nat) (l : List Ed) (i : Nat) : Prop := i ∈ forL n l
theorem for_nodup (n : Nat) (l : List Ed) : (forL n l).Nodup := (for_sorted n l).imp (fun {a b} h e => by subst e; exact olt_irrefl l a h)
theorem forest_lab {n : Nat} {l : List Ed} (hg : GOk n l) : IsLab n (EdR l (InF n l)) (foTo n l l.length).k := foTo_forest hg _ (Nat.le_refl _)

/-- Without an edge of the forest its ends are not connected. -/
theorem bridge {n : Nat} {l : List Ed} (hg : GOk n l) {e : Nat} (he : InF n l e) : ¬ Con (EdR l fun i => InF n l i ∧ i ≠ e) (uN l e) (vN l e) := by
  intro hc
  have hel := forL_mem he
  obtain ⟨h1, h2, _⟩ := hg.uv hel
  obtain ⟨k, hk, hr⟩ := lab_list hg ((forL n l).erase e) (fun i hi => forL_mem (List.mem_of_mem_erase hi))
  have hmem : ∀ i, i ∈ (forL n l).erase e ↔ InF n l i ∧ i ≠ e := fun i => by
    rw [(for_nodup n l).mem_erase_iff]
    exact and_comm
  have hk' := hk.congr (S := EdR l fun i => InF n l i ∧ i ≠ e) (fun a b => ⟨fun ⟨i, a1, a2, a3⟩ => ⟨i, a1, (hmem i).1 a2, a3⟩, fun ⟨i, a1, a2, a3⟩ => ⟨i, a1, (hmem i).2 a2, a3⟩⟩)
  have hF : IsLab n (EdR l (InF n l)) k := ⟨hk'.len, hk'.le, fun x hx => (hk'.con x hx).mono (fun a b ⟨i, a1, a2, a3⟩ => ⟨i, a1, a2.1, a3⟩), fun a b ⟨i, a1, a2, a3, a4⟩ => by
    subst a3 a4
    by_cases hie : i = e
    · subst hie
      exact ⟨h1, h2, hk'.eq_of hc⟩
    · exact hk'.edge _ _ ⟨i, a1, ⟨a2, hie⟩, rfl, rfl⟩⟩
  have hu := hF.unique (forest_lab hg)
  have hfr := foTo_roots hg l.length (Nat.le_refl _)
  rw [← hu] at hfr
  have hl : ((forL n l).erase e).length = (forL n l).length - 1 := List.length_erase_of_mem he
  have hp := List.length_pos_of_mem he
  have e2 : (forL n l).length = (foTo n l l.length).out.length := rfl
  omega

/-- Edge e as x sees it: its other end. -/
def Arm (l : List Ed) (e x y : Nat) : Prop := (uN l e = x ∧ vN l e = y) ∨ (vN l e = x ∧ uN l e = y)
def Tch (l : List Ed) (e x : Nat) : Prop := uN l e = x ∨ vN l e = x
theorem Arm.tch {l : List Ed} {e x y : Nat} (h : Arm l e x y) : Tch l e x := by
  rcases h with ⟨h, _⟩ | ⟨h, _⟩
  · exact .inl h
  · exact .inr h
theorem Arm.symm {l : List Ed} {e x y : Nat} (h : Arm l e x y) : Arm l e y x := by
  rcases h with ⟨h, h'⟩ | ⟨h, h'⟩
  · exact .inr ⟨h', h⟩
  · exact .inl ⟨h', h⟩
theorem Arm.ne {n : Nat} {l : List Ed} (hg : GOk n l) {e x y : Nat} (he : e < l.length) (h : Arm l e x y) : x < n ∧ y < n ∧ x ≠ y := by
  obtain ⟨h1, h2, h3, _⟩ := hg.uv he
  rcases h with ⟨rfl, rfl⟩ | ⟨rfl, rfl⟩
  · exact ⟨h1, h2, h3⟩
  · exact ⟨h2, h1, fun e => h3 e.symm⟩
theorem Arm.con {l : List Ed} {S : Nat → Prop} {e x y : Nat} (h : Arm l e x y) (he : e < l.length) (hs : S e) : Con (EdR l S) x y := by
  rcases h with ⟨rfl, rfl⟩ | ⟨rfl, rfl⟩
  · exact (Con.refl _).step (.inl ⟨e, he, hs, rfl, rfl⟩)
  · exact (Con.refl _).step (.inr ⟨e, he, hs, rfl, rfl⟩)
theorem EdR.arm {l : List Ed} {S : Nat → Prop} {x y : Nat} (h : EdR l S x y ∨ EdR l S y x) : ∃ e, e < l.length ∧ S e ∧ Arm l e x y := by
  rcases h with ⟨e, h1, h2, h3, h4⟩ | ⟨e, h1, h2, h3, h4⟩
  · exact ⟨e, h1, h2, .inl ⟨h3.symm, h4.symm⟩⟩
  · exact ⟨e, h1, h2, .inr ⟨h4.symm, h3.symm⟩⟩

/-- Connected in the forest by edges that do not touch x. -/
def Off (n : Nat) (l : List Ed) (x y v : Nat) : Prop := Con (EdR l fun i => InF n l i ∧ ¬ Tch l i x) y v

/-- Of the arms of x just one leads to v. -/
theorem arm_unique {n : Nat} {l : List Ed} (hg : GOk n l) {x v e y e' y' : Nat} (he : InF n l e) (ha : Arm l e x y) (ho : Off n l x y v) (he' : InF n l e') (ha' : Arm l e' x y') (ho' : Off n l x y' v) : e = e' ∧ y = y' := by
  have hee : e = e' := by
    apply Classical.byContradiction
    intro hne
    refine bridge hg he ?_
    have off : ∀ {a b}, Off n l x a b → Con (EdR l fun i => InF n l i ∧ i ≠ e) a b := fun h => h.mono (fun a b ⟨i, a1, a2, a3⟩ => ⟨i, a1, ⟨a2.1, fun hh => a2.2 (by subst hh; exact ha.tch)⟩, a3⟩)
    have h1 : Con (EdR l fun i => InF n l i ∧ i ≠ e) x y' := ha'.con (forL_mem he') ⟨he', fun h => hne h.symm⟩
    have h2 := (h1.trans (off ho')).trans (off ho).symm
    rcases ha with ⟨rfl, rfl⟩ | ⟨rfl, rfl⟩
    · exact h2
    · exact h2.symm
  subst hee
  refine ⟨rfl, ?_⟩
  have hn := ha.ne hg (forL_mem he)
  rcases ha with ⟨a1, a2⟩ | ⟨a1, a2⟩ <;> rcases ha' with ⟨b1, b2⟩ | ⟨b1, b2⟩ <;> omega

/-- The way from x to v in the forest, as a list of edges. -/
inductive PathTo (n : Nat) (l : List Ed) (v : Nat) : Nat → List Nat → Prop
  | here : PathTo n l v v []
  | step {x y e : Nat} {p : List Nat} : InF n l e → Arm l e x y → x ≠ v → Off n l x y v → PathTo n l v y p → PathTo n l v x (e :: p)

theorem PathTo.unique {n : Nat} {l : List Ed} (hg : GOk n l) {v x : Nat} {p q : List Nat} (hp : PathTo n l v x p) (hq : PathTo n l v x q) : p = q := by
  induction hp generalizing q with
  | here =>
    cases hq with
    | here => rfl
    | step _ _ h => exact absurd rfl h
  | step h1 h2 h3 h4 h5 ih =>
    cases hq with
    | here => exact absurd rfl h3
    | step k1 k2 k3 k4 k5 =>
      obtain ⟨rfl, rfl⟩ := arm_unique hg h1 h2 h4 k1 k2 k4
      rw [ih k5]

/-- Walks with their lengths. -/
inductive Wk (R : Nat → Nat → Prop) (v : Nat) : Nat → Nat → Prop
  | here : Wk R v 0 v
  | step {k x y : Nat} : (R x y ∨ R y x) → Wk R v k y → Wk R v (k + 1) x

theorem Wk.of_con {R : Nat → Nat → Prop} {x v : Nat} (h : Con R x v) : ∃ k, Wk R v k x := by
  have h' := h.symm
  clear h
  induction h' with
  | refl => exact ⟨0, .here⟩
  | step _ hr ih =>
    obtain ⟨k, hk⟩ := ih
    exact ⟨k + 1, .step hr.symm hk⟩
theorem Wk.con {R : Nat → Nat → Prop} {x v k : Nat} (h : Wk R v k x) : Con R x v := by
  induction h with
  | here => exact .refl _
  | step hr _ ih => exact (Con.step (.refl _) hr).trans ih

/-- The least length of a walk. -/
def Sh (R : Nat → Nat → Prop) (v k x : Nat) : Prop := Wk R v k x ∧ ∀ j, Wk R v j x → k ≤ j
theorem Sh.of_con {R : Nat → Nat → Prop} {x v : Nat} (h : Con R x v) : ∃ k, Sh R v k x := by
  obtain ⟨k, hk⟩ := Wk.of_con h
  induction k using Nat.strongRecOn with
  | _ k ih =>
    by_cases c : ∃ j, j < k ∧ Wk R v j x
    · obtain ⟨j, hj, hw⟩ := c
      exact ih j hj hw
    · exact ⟨k, hk, fun j hj => by
        apply Classical.byContradiction
        intro hc
        exact c ⟨j, by omega, hj⟩⟩
theorem Sh.unique {R : Nat → Nat → Prop} {v k j x : Nat} (h : Sh R v k x) (h' : Sh R v j x) : k = j := by
  have a := h.2 _ h'.1
  have b := h'.2 _ h.1
  omega
theorem Sh.zero {R : Nat → Nat → Prop} {v x : Nat} (h : Sh R v 0 x) : x = v := by
  cases h.1; rfl
theorem Sh.self (R : Nat → Nat → Prop) (v : Nat) : Sh R v 0 v := ⟨.here, fun _ _ => Nat.zero_le _⟩
theorem Sh.down {R : Nat → Nat → Prop} {v k x : Nat} (h : Sh R v (k + 1) x) : ∃ y, (R x y ∨ R y x) ∧ Sh R v k y := by
  obtain ⟨hw, hm⟩ := h
  cases hw with
  | step hr hw =>
    exact ⟨_, hr, hw, fun j hj => by have := hm _ (.step hr hj); omega⟩
theorem Sh.edge {R : Nat → Nat → Prop} {v k x y : Nat} (h : Sh R v k x) (hr : R x y ∨ R y x) : ∃ j, Sh R v j y ∧ j ≤ k + 1 ∧ k ≤ j + 1 := by
  obtain ⟨j, hj⟩ := Sh.of_con (R := R) (v := v) (x := y) ((Con.step (.refl _) hr.symm).trans h.1.con)
  exact ⟨j, hj, hj.2 _ (.step hr.symm h.1), h.2 _ (.step hr hj.1)⟩

/-- A walk shorter than any of x's does not touch x. -/
theorem Wk.off {l : List Ed} {S : Nat → Prop} {v k y x : Nat} (h : Wk (EdR l S) v k y) (hx : ∀ j, Wk (EdR l S) v j x → k < j) : Con (EdR l fun i => S i ∧ ¬ Tch l i x) y v := by
  induction h with
  | here => exact .refl _
  | @step k y z hr hw ih =>
    have hyx : y ≠ x := fun e => by subst e; exact Nat.lt_irrefl _ (hx _ (.step hr hw))
    have hzx : z ≠ x := fun e => by subst e; have := hx _ hw; omega
    have ih' := ih (fun j hj => by have := hx j hj; omega)
    refine Con.trans (Con.step (.refl _) ?_) ih'
    rcases hr with ⟨i, a1, a2, a3, a4⟩ | ⟨i, a1, a2, a3, a4⟩
    · exact .inl ⟨i, a1, ⟨a2, fun h => by rcases h with h | h <;> omega⟩, a3, a4⟩
    · exact .inr ⟨i, a1, ⟨a2, fun h => by rcases h with h | h <;> omega⟩, a3, a4⟩

/-- Among some edges of the forest: a shortest walk is the way. -/
theorem path_of {n : Nat} {l : List Ed} {S : Nat → Prop} (hs : ∀ i, S i → InF n l i) {v : Nat} : ∀ (k x : Nat), Sh (EdR l S) v k x → ∃ p, PathTo n l v x p ∧ (∀ e ∈ p, S e) ∧ p.length = k
  | 0, x, h => by
    rw [h.zero]
    exact ⟨[], .here, (fun e he => by cases he), rfl⟩
  | k + 1, x, h => by
    obtain ⟨y, hr, hy⟩ := h.down
    obtain ⟨p, h1, h2, h3⟩ := path_of hs k y hy
    obtain ⟨e, he1, he2, he3⟩ := EdR.arm hr
    refine ⟨e :: p, .step (hs e he2) he3 (fun e => ?_) ?_ h1, fun e' he' => ?_, by rw [List.length_cons, h3]⟩
    · subst e
      have := h.2 0 .here
      omega
    · exact (hy.1.off (fun j hj => by have := h.2 j hj; omega)).mono (fun a b ⟨i, a1, a2, a3⟩ => ⟨i, a1, ⟨hs i a2.1, a2.2⟩, a3⟩)
    · rcases List.mem_cons.1 he' with rfl | he'
      · exact he2
      · exact h2 _ he'

/-- The way within some edges of the forest is the way. -/
theorem path_in {n : Nat} {l : List Ed} (hg : GOk n l) {S : Nat → Prop} (hs : ∀ i, S i → InF n l i) {v x : Nat} (hc : Con (EdR l S) x v) {p : List Nat} (hp : PathTo n l v x p) : ∀ e ∈ p, S e := by
  obtain ⟨k, hk⟩ := Sh.of_con hc
  obtain ⟨q, h1, h2, _⟩ := path_of hs k x hk
  rw [hp.unique hg h1]
  exact h2
theorem PathTo.con {n : Nat} {l : List Ed} {S : Nat → Prop} {v x : Nat} {p : List Nat} (hp : PathTo n l v x p) (h : ∀ e ∈ p, S e) : Con (EdR l S) x v := by
  induction hp with
  | here => exact .refl _
  | step h1 h2 h3 h4 h5 ih => exact (h2.con (forL_mem h1) (h _ (List.mem_cons_self ..))).trans (ih (fun e he => h e (List.mem_cons_of_mem _ he)))

end Go.Proofs.Ythacjealoomioaa
