/- Several texts in one: PaP, McP, MapV. -/
import Derived.Test.YthacjealoomioaaDoorZMgB
import Derived.Maps.OwnSet
import Derived.Test.YthacjealoomioaaDoorZMgA
/- Paths in a forest: each edge is a bridge, the way to a vertex is one. No program in sight. -/
namespace Go.Proofs.YthacjealoomioaaDoor
set_option linter.unusedVariables false
set_option linter.unusedSimpArgs false

/-- The edges of a list give labels; each edge makes at most one component of two. -/
theorem lab_list {n : Nat} {l : List Ed} (hg : GOk n l) : ∀ E : List Nat, (∀ i ∈ E, i < l.length) → ∃ k, IsLab n (EdR l fun i => i ∈ E) k ∧ n ≤ roots n k + E.length
  | [], _ => ⟨List.range n, (IsLab.start n).congr (fun a b => ⟨fun h => h.elim, fun ⟨i, _, h, _⟩ => by cases h⟩), by rw [roots_start]; exact Nat.le_refl _⟩
  | e :: E, h => by
    obtain ⟨k, hk, hr⟩ := lab_list hg E (fun i hi => h i (List.mem_cons_of_mem _ hi))
    have he := h e (List.mem_cons_self ..)
    obtain ⟨h1, h2, _⟩ := hg.uv he
    refine ⟨unK k (uN l e) (vN l e), (hk.join h1 h2).congr (fun a b => ?_), ?_⟩
    · constructor
      · rintro (⟨i, a1, a2, a3⟩ | ⟨rfl, rfl⟩)
        · exact ⟨i, a1, List.mem_cons_of_mem _ a2, a3⟩
        · exact ⟨e, he, List.mem_cons_self .., rfl, rfl⟩
      · rintro ⟨i, a1, a2, a3, a4⟩
        rcases List.mem_cons.1 a2 with rfl | a2
        · exact .inr ⟨a3, a4⟩
        · exact .inl ⟨i, a1, a2, a3, a4⟩
    · unfold unK
      rw [List.length_cons]
      split
      · omega
      · rename_i hne
        have hok := hk.kok
        obtain ⟨b1, b2, b3, b4⟩ := lohi (s := ⟨k, []⟩) hg hok he hne
        have := roots_join hok (Nat.lt_trans b1 b2) b2 b3 b4 b1
        have e : roots n k = roots n (relN k (min (k.getD (uN l e) 0) (k.getD (vN l e) 0)) (max (k.getD (uN l e) 0) (k.getD (vN l e) 0))) + 1 := this
        omega

/-- The edges of the forest give the labels. -/
theorem foTo_forest {n : Nat} {l : List Ed} (hg : GOk n l) : ∀ t, t ≤ l.length → IsLab n (EdR l fun i => i ∈ (foTo n l t).out) (foTo n l t).k
  | 0, _ => (IsLab.start n).congr (fun a b => ⟨fun h => h.elim, fun ⟨i, _, h, _⟩ => by cases h⟩)
  | t + 1, h => by
    have ih := foTo_forest hg t (by omega)
    have hi := ord_at (l := l) (t := t) h
    obtain ⟨h1, h2, _⟩ := hg.uv hi
    have hk : (foTo n l (t + 1)).k = unK (foTo n l t).k (uN l ((ordL l).getD t 0)) (vN l ((ordL l).getD t 0)) := Fo.step_un
    rw [hk]
    have ho : (foTo n l (t + 1)).out = if (foTo n l t).k.getD (uN l ((ordL l).getD t 0)) 0 = (foTo n l t).k.getD (vN l ((ordL l).getD t 0)) 0 then (foTo n l t).out else (foTo n l t).out ++ [(ordL l).getD t 0] := by
      show (Fo.step l _ _).out = _
      unfold Fo.step
      split <;> rfl
    rw [ho]
    split
    · rename_i e
      unfold unK
      rw [if_pos e]
      exact ih
    · refine (ih.join h1 h2).congr (fun a b => ?_)
      constructor
      · rintro (⟨i, a1, a2, a3⟩ | ⟨rfl, rfl⟩)
        · exact ⟨i, a1, List.mem_append_left _ a2, a3⟩
        · exact ⟨_, hi, List.mem_append_right _ (List.mem_singleton.2 rfl), rfl, rfl⟩
      · rintro ⟨i, a1, a2, a3, a4⟩
        rcases List.mem_append.1 a2 with a2 | a2
        · exact .inl ⟨i, a1, a2, a3, a4⟩
        · rw [List.mem_singleton] at a2
          subst a2
          exact .inr ⟨a3, a4⟩

def InF (n : Nat) (l : List Ed) (i : Nat) : Prop := i ∈ forL n l
theorem for_nodup (n : Nat) (l : List Ed) : (forL n l).Nodup := (for_sorted n l).imp (fun {a b} h e => by subst e; exact olt_irrefl l a h)
theorem forest_lab {n : Nat} {l : List Ed} (hg : GOk n l) : IsLab n (EdR l (InF n l)) (foTo n l l.length).k := foTo_forest hg _ (Nat.le_refl _)

/-- Without an edge of the forest its ends are not connected. -/
theorem bridge {n : Nat} {l : List Ed} (hg : GOk n l) {e : Nat} (he : InF n l e) : ¬ Con (EdR l fun i => InF n l i ∧ i ≠ e) (uN l e) (vN l e) := by
  intro hc
  have hel := forL_mem he
  obtain ⟨h1, h2, _⟩ := hg.uv hel
  obtain ⟨k, hk, hr⟩ := lab_list hg ((forL n l).erase e) (fun i hi => forL_mem (List.mem_of_mem_erase hi))
  have hmem : ∀ i, i ∈ (forL n l).erase e ↔ InF n l i ∧ i ≠ e := fun i => by
    rw [(for_nodup n l).mem_erase_iff]
    exact and_comm
  have hk' := hk.congr (S := EdR l fun i => InF n l i ∧ i ≠ e) (fun a b => ⟨fun ⟨i, a1, a2, a3⟩ => ⟨i, a1, (hmem i).1 a2, a3⟩, fun ⟨i, a1, a2, a3⟩ => ⟨i, a1, (hmem i).2 a2, a3⟩⟩)
  have hF : IsLab n (EdR l (InF n l)) k := ⟨hk'.len, hk'.le, fun x hx => (hk'.con x hx).mono (fun a b ⟨i, a1, a2, a3⟩ => ⟨i, a1, a2.1, a3⟩), fun a b ⟨i, a1, a2, a3, a4⟩ => by
    subst a3 a4
    by_cases hie : i = e
    · subst hie
      exact ⟨h1, h2, hk'.eq_of hc⟩
    · exact hk'.edge _ _ ⟨i, a1, ⟨a2, hie⟩, rfl, rfl⟩⟩
  have hu := hF.unique (forest_lab hg)
  have hfr := foTo_roots hg l.length (Nat.le_refl _)
  rw [← hu] at hfr
  have hl : ((forL n l).erase e).length = (forL n l).length - 1 := List.length_erase_of_mem he
  have hp := List.length_pos_of_mem he
  have e2 : (forL n l).length = (foTo n l l.length).out.length := rfl
  omega

/-- Edge e as x sees it: its other end. -/
def Arm (l : List Ed) (e x y : Nat) : Prop := (uN l e = x ∧ vN l e = y) ∨ (vN l e = x ∧ uN l e = y)
def Tch (l : List Ed) (e x : Nat) : Prop := uN l e = x ∨ vN l e = x
theorem Arm.tch {l : List Ed} {e x y : Nat} (h : Arm l e x y) : Tch l e x := by
  rcases h with ⟨h, _⟩ | ⟨h, _⟩
  · exact .inl h
  · exact .inr h
theorem Arm.symm {l : List Ed} {e x y : Nat} (h : Arm l e x y) : Arm l e y x := by
  rcases h with ⟨h, h'⟩ | ⟨h, h'⟩
  · exact .inr ⟨h', h⟩
  · exact .inl ⟨h', h⟩
theorem Arm.ne {n : Nat} {l : List Ed} (hg : GOk n l) {e x y : Nat} (he : e < l.length) (h : Arm l e x y) : x < n ∧ y < n ∧ x ≠ y := by
  obtain ⟨h1, h2, h3, _⟩ := hg.uv he
  rcases h with ⟨rfl, rfl⟩ | ⟨rfl, rfl⟩
  · exact ⟨h1, h2, h3⟩
  · exact ⟨h2, h1, fun e => h3 e.symm⟩
theorem Arm.con {l : List Ed} {S : Nat → Prop} {e x y : Nat} (h : Arm l e x y) (he : e < l.length) (hs : S e) : Con (EdR l S) x y := by
  rcases h with ⟨rfl, rfl⟩ | ⟨rfl, rfl⟩
  · exact (Con.refl _).step (.inl ⟨e, he, hs, rfl, rfl⟩)
  · exact (Con.refl _).step (.inr ⟨e, he, hs, rfl, rfl⟩)
theorem EdR.arm {l : List Ed} {S : Nat → Prop} {x y : Nat} (h : EdR l S x y ∨ EdR l S y x) : ∃ e, e < l.length ∧ S e ∧ Arm l e x y := by
  rcases h with ⟨e, h1, h2, h3, h4⟩ | ⟨e, h1, h2, h3, h4⟩
  · exact ⟨e, h1, h2, .inl ⟨h3.symm, h4.symm⟩⟩
  · exact ⟨e, h1, h2, .inr ⟨h4.symm, h3.symm⟩⟩

/-- Connected in the forest by edges that do not touch x. -/
def Off (n : Nat) (l : List Ed) (x y v : Nat) : Prop := Con (EdR l fun i => InF n l i ∧ ¬ Tch l i x) y v

/-- Of the arms of x just one leads to v. -/
theorem arm_unique {n : Nat} {l : List Ed} (hg : GOk n l) {x v e y e' y' : Nat} (he : InF n l e) (ha : Arm l e x y) (ho : Off n l x y v) (he' : InF n l e') (ha' : Arm l e' x y') (ho' : Off n l x y' v) : e = e' ∧ y = y' := by
  have hee : e = e' := by
    apply Classical.byContradiction
    intro hne
    refine bridge hg he ?_
    have off : ∀ {a b}, Off n l x a b → Con (EdR l fun i => InF n l i ∧ i ≠ e) a b := fun h => h.mono (fun a b ⟨i, a1, a2, a3⟩ => ⟨i, a1, ⟨a2.1, fun hh => a2.2 (by subst hh; exact ha.tch)⟩, a3⟩)
    have h1 : Con (EdR l fun i => InF n l i ∧ i ≠ e) x y' := ha'.con (forL_mem he') ⟨he', fun h => hne h.symm⟩
    have h2 := (h1.trans (off ho')).trans (off ho).symm
    rcases ha with ⟨rfl, rfl⟩ | ⟨rfl, rfl⟩
    · exact h2
    · exact h2.symm
  subst hee
  refine ⟨rfl, ?_⟩
  have hn := ha.ne hg (forL_mem he)
  rcases ha with ⟨a1, a2⟩ | ⟨a1, a2⟩ <;> rcases ha' with ⟨b1, b2⟩ | ⟨b1, b2⟩ <;> omega

/-- The way from x to v in the forest, as a list of edges. -/
inductive PathTo (n : Nat) (l : List Ed) (v : Nat) : Nat → List Nat → Prop
  | here : PathTo n l v v []
  | step {x y e : Nat} {p : List Nat} : InF n l e → Arm l e x y → x ≠ v → Off n l x y v → PathTo n l v y p → PathTo n l v x (e :: p)

theorem PathTo.unique {n : Nat} {l : List Ed} (hg : GOk n l) {v x : Nat} {p q : List Nat} (hp : PathTo n l v x p) (hq : PathTo n l v x q) : p = q := by
  induction hp generalizing q with
  | here =>
    cases hq with
    | here => rfl
    | step _ _ h => exact absurd rfl h
  | step h1 h2 h3 h4 h5 ih =>
    cases hq with
    | here => exact absurd rfl h3
    | step k1 k2 k3 k4 k5 =>
      obtain ⟨rfl, rfl⟩ := arm_unique hg h1 h2 h4 k1 k2 k4
      rw [ih k5]

/-- Walks with their lengths. -/
inductive Wk (R : Nat → Nat → Prop) (v : Nat) : Nat → Nat → Prop
  | here : Wk R v 0 v
  | step {k x y : Nat} : (R x y ∨ R y x) → Wk R v k y → Wk R v (k + 1) x

theorem Wk.of_con {R : Nat → Nat → Prop} {x v : Nat} (h : Con R x v) : ∃ k, Wk R v k x := by
  have h' := h.symm
  clear h
  induction h' with
  | refl => exact ⟨0, .here⟩
  | step _ hr ih =>
    obtain ⟨k, hk⟩ := ih
    exact ⟨k + 1, .step hr.symm hk⟩
theorem Wk.con {R : Nat → Nat → Prop} {x v k : Nat} (h : Wk R v k x) : Con R x v := by
  induction h with
  | here => exact .refl _
  | step hr _ ih => exact (Con.step (.refl _) hr).trans ih

/-- The least length of a walk. -/
def Sh (R : Nat → Nat → Prop) (v k x : Nat) : Prop := Wk R v k x ∧ ∀ j, Wk R v j x → k ≤ j
theorem Sh.of_con {R : Nat → Nat → Prop} {x v : Nat} (h : Con R x v) : ∃ k, Sh R v k x := by
  obtain ⟨k, hk⟩ := Wk.of_con h
  induction k using Nat.strongRecOn with
  | _ k ih =>
    by_cases c : ∃ j, j < k ∧ Wk R v j x
    · obtain ⟨j, hj, hw⟩ := c
      exact ih j hj hw
    · exact ⟨k, hk, fun j hj => by
        apply Classical.byContradiction
        intro hc
        exact c ⟨j, by omega, hj⟩⟩
theorem Sh.unique {R : Nat → Nat → Prop} {v k j x : Nat} (h : Sh R v k x) (h' : Sh R v j x) : k = j := by
  have a := h.2 _ h'.1
  have b := h'.2 _ h.1
  omega
theorem Sh.zero {R : Nat → Nat → Prop} {v x : Nat} (h : Sh R v 0 x) : x = v := by
  cases h.1; rfl
theorem Sh.self (R : Nat → Nat → Prop) (v : Nat) : Sh R v 0 v := ⟨.here, fun _ _ => Nat.zero_le _⟩
theorem Sh.down {R : Nat → Nat → Prop} {v k x : Nat} (h : Sh R v (k + 1) x) : ∃ y, (R x y ∨ R y x) ∧ Sh R v k y := by
  obtain ⟨hw, hm⟩ := h
  cases hw with
  | step hr hw =>
    exact ⟨_, hr, hw, fun j hj => by have := hm _ (.step hr hj); omega⟩
theorem Sh.edge {R : Nat → Nat → Prop} {v k x y : Nat} (h : Sh R v k x) (hr : R x y ∨ R y x) : ∃ j, Sh R v j y ∧ j ≤ k + 1 ∧ k ≤ j + 1 := by
  obtain ⟨j, hj⟩ := Sh.of_con (R := R) (v := v) (x := y) ((Con.step (.refl _) hr.symm).trans h.1.con)
  exact ⟨j, hj, hj.2 _ (.step hr.symm h.1), h.2 _ (.step hr hj.1)⟩

/-- A walk shorter than any of x's does not touch x. -/
theorem Wk.off {l : List Ed} {S : Nat → Prop} {v k y x : Nat} (h : Wk (EdR l S) v k y) (hx : ∀ j, Wk (EdR l S) v j x → k < j) : Con (EdR l fun i => S i ∧ ¬ Tch l i x) y v := by
  induction h with
  | here => exact .refl _
  | @step k y z hr hw ih =>
    have hyx : y ≠ x := fun e => by subst e; exact Nat.lt_irrefl _ (hx _ (.step hr hw))
    have hzx : z ≠ x := fun e => by subst e; have := hx _ hw; omega
    have ih' := ih (fun j hj => by have := hx j hj; omega)
    refine Con.trans (Con.step (.refl _) ?_) ih'
    rcases hr with ⟨i, a1, a2, a3, a4⟩ | ⟨i, a1, a2, a3, a4⟩
    · exact .inl ⟨i, a1, ⟨a2, fun h => by rcases h with h | h <;> omega⟩, a3, a4⟩
    · exact .inr ⟨i, a1, ⟨a2, fun h => by rcases h with h | h <;> omega⟩, a3, a4⟩

/-- Among some edges of the forest: a shortest walk is the way. -/
theorem path_of {n : Nat} {l : List Ed} {S : Nat → Prop} (hs : ∀ i, S i → InF n l i) {v : Nat} : ∀ (k x : Nat), Sh (EdR l S) v k x → ∃ p, PathTo n l v x p ∧ (∀ e ∈ p, S e) ∧ p.length = k
  | 0, x, h => by
    rw [h.zero]
    exact ⟨[], .here, (fun e he => by cases he), rfl⟩
  | k + 1, x, h => by
    obtain ⟨y, hr, hy⟩ := h.down
    obtain ⟨p, h1, h2, h3⟩ := path_of hs k y hy
    obtain ⟨e, he1, he2, he3⟩ := EdR.arm hr
    refine ⟨e :: p, .step (hs e he2) he3 (fun e => ?_) ?_ h1, fun e' he' => ?_, by rw [List.length_cons, h3]⟩
    · subst e
      have := h.2 0 .here
      omega
    · exact (hy.1.off (fun j hj => by have := h.2 j hj; omega)).mono (fun a b ⟨i, a1, a2, a3⟩ => ⟨i, a1, ⟨hs i a2.1, a2.2⟩, a3⟩)
    · rcases List.mem_cons.1 he' with rfl | he'
      · exact he2
      · exact h2 _ he'

/-- The way within some edges of the forest is the way. -/
theorem path_in {n : Nat} {l : List Ed} (hg : GOk n l) {S : Nat → Prop} (hs : ∀ i, S i → InF n l i) {v x : Nat} (hc : Con (EdR l S) x v) {p : List Nat} (hp : PathTo n l v x p) : ∀ e ∈ p, S e := by
  obtain ⟨k, hk⟩ := Sh.of_con hc
  obtain ⟨q, h1, h2, _⟩ := path_of hs k x hk
  rw [hp.unique hg h1]
  exact h2
theorem PathTo.con {n : Nat} {l : List Ed} {S : Nat → Prop} {v x : Nat} {p : List Nat} (hp : PathTo n l v x p) (h : ∀ e ∈ p, S e) : Con (EdR l S) x v := by
  induction hp with
  | here => exact .refl _
  | step h1 h2 h3 h4 h5 ih => exact (h2.con (forL_mem h1) (h _ (List.mem_cons_self ..))).trans (ih (fun e he => h e (List.mem_cons_of_mem _ he)))

end Go.Proofs.YthacjealoomioaaDoor

/- Common ancestors in a valid tree, and the stage at which two vertices are joined. No program in sight. -/
namespace Go.Proofs.YthacjealoomioaaDoor
set_option linter.unusedVariables false
set_option linter.unusedSimpArgs false

/-- The highest node above x to which all steps lead below c. -/
def ix (t : Tr) (m c x : Nat) : Nat := up t m (fun x r => match r with | none => x | some v => if (gi t.par x).toNat < c then v else x) x

theorem ix_par {t : Tr} {n m : Nat} {ls : List Nat} (h : TV t n m ls) {c x p : Nat} (hx : x < m) (e : gi t.par x = p) : ix t m c x = if p < c then ix t m c p else x := by
  have := up_par h (fun x r => match r with | none => x | some v => if (gi t.par x).toNat < c then v else x) hx e
  unfold ix
  rw [this]
  simp only [e, Int.toNat_natCast]
theorem ix_root {t : Tr} {n m : Nat} {ls : List Nat} (h : TV t n m ls) {c x : Nat} (hx : x < m) (e : gi t.par x < 0) : ix t m c x = x := up_root h _ hx e

/-- Where the way up ends. -/
theorem ix_end {t : Tr} {n m : Nat} {ls : List Nat} (h : TV t n m ls) (c : Nat) : ∀ x, x < m → ix t m c x < m ∧ bl t m (ix t m c x) x = true ∧ (ix t m c x = x ∨ (n ≤ ix t m c x ∧ ix t m c x < c)) ∧ ix t m c (ix t m c x) = ix t m c x :=
  h.down (Q := fun x => ix t m c x < m ∧ bl t m (ix t m c x) x = true ∧ (ix t m c x = x ∨ (n ≤ ix t m c x ∧ ix t m c x < c)) ∧ ix t m c (ix t m c x) = ix t m c x)
    (fun x hx e => by
      rw [ix_root h hx e]
      exact ⟨hx, bl_self h hx, .inl rfl, ix_root h hx e⟩)
    (fun x p hx hp hlt hn e ih => by
      have hi := ix_par h (c := c) hx e
      by_cases k : p < c
      · rw [if_pos k] at hi
        rw [hi]
        refine ⟨ih.1, ?_, .inr ?_, ih.2.2.2⟩
        · rw [bl_par h hx e, ih.2.1]
          simp
        · rcases ih.2.2.1 with h1 | h1
          · rw [h1]; exact ⟨hn, k⟩
          · exact h1
      · rw [if_neg k] at hi
        rw [hi]
        exact ⟨hx, bl_self h hx, .inl rfl, hi⟩)

/-- x lies below c or is c, told by the way up. -/
theorem bl_ix {t : Tr} {n m : Nat} {ls : List Nat} (h : TV t n m ls) {c : Nat} (hc : c < m) : ∀ x, x < m → (bl t m c x = true ↔ ix t m (c + 1) x = c) :=
  h.down (Q := fun x => bl t m c x = true ↔ ix t m (c + 1) x = c)
    (fun x hx e => by rw [ix_root h hx e, bl_root h hx e, decide_eq_true_eq])
    (fun x p hx hp hlt hn e ih => by
      rw [ix_par h hx e, bl_par h hx e, Bool.or_eq_true, decide_eq_true_eq]
      by_cases k : p < c + 1
      · rw [if_pos k, ← ih]
        refine ⟨fun h1 => ?_, .inr⟩
        rcases h1 with h1 | h1
        · subst h1
          omega
        · exact h1
      · rw [if_neg k]
        refine ⟨fun h1 => ?_, .inl⟩
        rcases h1 with h1 | h1
        · exact h1
        · have := bl_le h (node := c) p hp h1
          omega)

/-- The way up from the least leaf below a node. -/
theorem ix_ls {t : Tr} {n m : Nat} {ls : List Nat} (h : TV t n m ls) (c : Nat) : ∀ x, x < m → (n ≤ x → x < c) → ix t m c (ls.getD x 0) = ix t m c x := by
  intro x
  induction x using Nat.strongRecOn with
  | _ x ih =>
    intro hx hh
    by_cases k : x < n
    · rw [h.ls0 x k]
    · obtain ⟨c1, c2, c3, c4, c5, c6, c7⟩ := h.child (x := x) (by omega) hx
      have := hh (by omega)
      rw [h.ls1 x (by omega) hx, ih _ c1 (by omega) (fun hn => by omega), ix_par h (by omega) c4, if_pos this]

/-- Two leaves have one highest node exactly if it has one least leaf. -/
theorem ix_label {t : Tr} {n m : Nat} {ls : List Nat} (h : TV t n m ls) (c : Nat) {u v : Nat} (hu : u < n) (hv : v < n) : ix t m c u = ix t m c v ↔ ls.getD (ix t m c u) 0 = ls.getD (ix t m c v) 0 := by
  have hnm := h.nm
  refine ⟨fun e => by rw [e], fun e => ?_⟩
  have key : ∀ x, x < n → ix t m c (ls.getD (ix t m c x) 0) = ix t m c x := fun x hx => by
    obtain ⟨h1, _, h2, h3⟩ := ix_end h c x (by omega)
    rw [ix_ls h c _ h1 (fun hn => by rcases h2 with h2 | h2 <;> omega), h3]
  rw [← key u hu, ← key v hv, e]

/-- The lowest common ancestor: the least node that has both below it. -/
def comV (t : Tr) (m a b : Nat) : Option Nat := (List.range m).find? fun c => bl t m c a && bl t m c b

theorem comV_some {t : Tr} {m a b c : Nat} : comV t m a b = some c ↔ c < m ∧ bl t m c a = true ∧ bl t m c b = true ∧ ∀ d, d < m → bl t m d a = true → bl t m d b = true → c ≤ d := by
  unfold comV
  constructor
  · intro e
    obtain ⟨h1, i, hi, e1, h2⟩ := List.find?_eq_some_iff_getElem.1 e
    simp only [List.length_range] at hi
    simp only [List.getElem_range] at e1
    subst e1
    rw [Bool.and_eq_true] at h1
    refine ⟨hi, h1.1, h1.2, fun d hd p1 p2 => ?_⟩
    apply Classical.byContradiction
    intro hc
    have h3 := h2 d (by omega)
    simp [p1, p2] at h3
  · rintro ⟨h1, h2, h3, h4⟩
    refine List.find?_eq_some_iff_getElem.2 ⟨by rw [h2, h3]; rfl, c, by simpa using h1, by simp, fun j hj => ?_⟩
    simp only [List.getElem_range]
    cases e1 : bl t m j a with
    | false => rfl
    | true =>
      cases e2 : bl t m j b with
      | false => rfl
      | true => have := h4 j (by omega) e1 e2; omega
theorem comV_none {t : Tr} {m a b : Nat} : comV t m a b = none ↔ ∀ d, d < m → bl t m d a = true → bl t m d b = true → False := by
  unfold comV
  rw [List.find?_eq_none]
  constructor
  · intro h d hd p1 p2
    exact h d (List.mem_range.2 hd) (by rw [p1, p2]; rfl)
  · intro h d hd e
    rw [Bool.and_eq_true] at e
    exact h d (List.mem_range.1 hd) e.1 e.2
theorem comV_comm {t : Tr} {m a b : Nat} : comV t m a b = comV t m b a := by
  unfold comV
  congr 1
  funext c
  exact Bool.and_comm _ _

/-- Two different leaves lie below one node with an index below c exactly if their ways up below c end alike. -/
theorem ix_com {t : Tr} {n m : Nat} {ls : List Nat} (h : TV t n m ls) (c : Nat) {u v : Nat} (hu : u < n) (hv : v < n) (hne : u ≠ v) : ix t m c u = ix t m c v ↔ ∃ d, comV t m u v = some d ∧ d < c := by
  have hnm := h.nm
  constructor
  · intro e
    obtain ⟨h1, h2, h3, _⟩ := ix_end h c u (by omega)
    obtain ⟨k1, k2, k3, _⟩ := ix_end h c v (by omega)
    rw [← e] at k1 k2 k3
    cases hc : comV t m u v with
    | none => exact absurd k2 (fun k2 => comV_none.1 hc _ h1 h2 k2)
    | some d =>
      refine ⟨d, rfl, ?_⟩
      obtain ⟨_, _, _, hmin⟩ := comV_some.1 hc
      have := hmin _ h1 h2 k2
      rcases h3 with h3 | h3
      · rcases k3 with k3 | k3
        · omega
        · omega
      · omega
  · rintro ⟨d, hc, hd⟩
    obtain ⟨h1, h2, h3, _⟩ := comV_some.1 hc
    have key : ∀ x, x < m → bl t m d x = true → ix t m c x = ix t m c d :=
      h.down (Q := fun x => bl t m d x = true → ix t m c x = ix t m c d)
        (fun x hx e hb => by
          rw [bl_root h hx e, decide_eq_true_eq] at hb
          rw [hb])
        (fun x p hx hp hlt hn e ih hb => by
          rw [bl_par h hx e, Bool.or_eq_true, decide_eq_true_eq] at hb
          rcases hb with hb | hb
          · rw [hb]
          · have := bl_le h (node := d) p hp hb
            rw [ix_par h hx e, if_pos (by omega), ih hb])
    rw [key u (by omega) h2, key v (by omega) h3]

/-- What joins two different leaves is an inner node. -/
theorem comV_inner {t : Tr} {n m : Nat} {ls : List Nat} (h : TV t n m ls) {u v c : Nat} (hu : u < n) (hv : v < n) (hne : u ≠ v) (hc : comV t m u v = some c) : n ≤ c ∧ c < m := by
  have hnm := h.nm
  obtain ⟨h1, h2, h3, _⟩ := comV_some.1 hc
  refine ⟨?_, h1⟩
  apply Classical.byContradiction
  intro hlt
  have key : ∀ x, x < m → x < n → bl t m c x = true → x = c := fun x hx hxn hb => by
    have : x ∈ leavesL t n m c := lv_mem.2 ⟨hxn, hb⟩
    rw [lv_leaf h (by omega)] at this
    simpa using this
  exact hne ((key u (by omega) hu h2).trans (key v (by omega) hv h3).symm)

/-- At a stage: the least leaf below the highest node so far is the label. -/
theorem ix_stage {n : Nat} {l : List Ed} (hg : GOk n l) {j : Nat} (hj : j ≤ FN n l) :
    ∀ x, x < n + FN n l → x < n + j → (lsB n l (FN n l)).getD (ix (bdL n l) (n + FN n l) (n + j) x) 0 = (bdS n l j).k.getD ((lsB n l j).getD x 0) 0 := by
  have tv := bdL_tv3 hg
  obtain ⟨hb, hb2, _⟩ := bd_inv3 hg j hj
  have hls : ∀ x, x < n + j → (lsB n l (FN n l)).getD x 0 = (lsB n l j).getD x 0 := fun x hx => by
    have := lsB_at (n := n) (l := l) hx (FN n l - j)
    rw [show j + (FN n l - j) = FN n l by omega] at this
    exact this
  have root : ∀ x, x < n + j → gi (bdS n l j).t.par x = -1 → (lsB n l j).getD x 0 = (bdS n l j).k.getD ((lsB n l j).getD x 0) 0 := fun x hx e => by
    have h1 := hb2.r x hx e
    have h2 := hb2.lt x hx
    have h3 := hb.kok.idem _ h2
    have h4 := hb.kok.le _ h2
    have h5 := (hb.top _ (by omega) h3).2.2
    rw [h1] at h5
    exact h5
  refine tv.down (Q := fun x => x < n + j → (lsB n l (FN n l)).getD (ix (bdL n l) (n + FN n l) (n + j) x) 0 = (bdS n l j).k.getD ((lsB n l j).getD x 0) 0) (fun x hx e hxj => ?_) (fun x p hx hp hlt hn e ih hxj => ?_)
  · rw [ix_root tv hx e, hls x hxj]
    refine root x hxj ?_
    rw [par_end hg hxj hj, if_neg (by omega)]
  · rw [ix_par tv hx e]
    by_cases c : p < n + j
    · rw [if_pos c, ih c]
      have : gi (bdS n l j).t.par x = p := by rw [par_end hg hxj hj, e, if_pos (by omega)]
      exact hb2.p x hxj p this
    · rw [if_neg c, hls x hxj]
      refine root x hxj ?_
      rw [par_end hg hxj hj, e, if_neg (by omega)]

/-- Two different vertices are joined at a stage exactly if their common ancestor is there by then. -/
theorem com_stage {n : Nat} {l : List Ed} (hg : GOk n l) {u v : Nat} (hu : u < n) (hv : v < n) (hne : u ≠ v) {j : Nat} (hj : j ≤ FN n l) :
    (bdS n l j).k.getD u 0 = (bdS n l j).k.getD v 0 ↔ ∃ d, comV (bdL n l) (n + FN n l) u v = some d ∧ d < n + j := by
  have tv := bdL_tv3 hg
  obtain ⟨hb, _, _⟩ := bd_inv3 hg j hj
  rw [← ix_com tv (n + j) hu hv hne, ix_label tv (n + j) hu hv, ix_stage hg hj u (by omega) (by omega), ix_stage hg hj v (by omega) (by omega), hb.ls0 u hu, hb.ls0 v hv]

/-- .. after a number of edges in the order. -/
theorem com_edges {n : Nat} {l : List Ed} (hg : GOk n l) {u v : Nat} (hu : u < n) (hv : v < n) (hne : u ≠ v) {t : Nat} (ht : t ≤ l.length) :
    (foTo n l t).k.getD u 0 = (foTo n l t).k.getD v 0 ↔ ∃ d, comV (bdL n l) (n + FN n l) u v = some d ∧ d < n + (foTo n l t).out.length := by
  rw [← com_stage hg hu hv hne (out_le ht)]
  have : (bdS n l (foTo n l t).out.length).k = (foTo n l t).k := bd_k _ ht
  rw [this]

/-- .. at a threshold. -/
theorem com_at {n : Nat} {l : List Ed} (hg : GOk n l) {u v : Nat} (hu : u < n) (hv : v < n) (hne : u ≠ v) (th : Int) :
    (foTo n l (cutT l th)).k.getD u 0 = (foTo n l (cutT l th)).k.getD v 0 ↔ ∃ d, comV (bdL n l) (n + FN n l) u v = some d ∧ wI l (fe n l (d - n)) ≤ th := by
  rw [com_edges hg hu hv hne (cutT_le l th)]
  constructor
  · rintro ⟨d, h1, h2⟩
    obtain ⟨h3, h4⟩ := comV_inner (bdL_tv3 hg) hu hv hne h1
    exact ⟨d, h1, (cutJ_at (n := n) (by omega)).2 (by unfold cutJ; omega)⟩
  · rintro ⟨d, h1, h2⟩
    obtain ⟨h3, h4⟩ := comV_inner (bdL_tv3 hg) hu hv hne h1
    have := (cutJ_at (n := n) (by omega)).1 h2
    unfold cutJ at this
    exact ⟨d, h1, by omega⟩

end Go.Proofs.YthacjealoomioaaDoor

/- A map of the call's own whose elements are any values: what each whole number has in it. No program in sight. -/
namespace Go.Proofs.YthacjealoomioaaDoor
set_option linter.unusedVariables false
set_option linter.unusedSimpArgs false
open Go.RowKit
open Go.Maps (Keyed)

/-- An element reads as itself. -/
def mapR (v : Value) : Option (DataW Value × List MemPlace) := some (.held v, [])

/-- Block b is a map of at most n entries; the number i has F i. -/
def MapV (w : World) (P : Program) (k : TypeId) (b n : Nat) (F : Int → Option Value) : Prop :=
  ∃ D : DataW Value, w.ownsMap P k mapR b n D ∧ ∀ i : Int, Maps.has D (.int .i64 i) = (F i).isSome ∧ ∀ z, D.atKey (.int .i64 i) (.held z) = .held ((F i).getD z)

variable {w w' : World} {P : Program} {k t e : TypeId} {b n : Nat} {F : Int → Option Value}

theorem MapV.made (w : World) (P : Program) (k : TypeId) : MapV (w.alloc (.map #[] 0)) P k w.heap.size 0 (fun _ => none) :=
  ⟨_, World.ownsMap_made w P k mapR, fun i => ⟨by simp [Maps.has], fun z => by simp [DataW.atKey]⟩⟩
theorem MapV.lt (h : MapV w P k b n F) : b < w.heap.size := h.choose_spec.1.lt
theorem MapV.mono (h : MapV w P k b n F) {n' : Nat} (hn : n ≤ n') : MapV w P k b n' F := by
  obtain ⟨D, h1, h2⟩ := h
  exact ⟨D, h1.mono hn, h2⟩
theorem MapV.congr {G : Int → Option Value} (h : MapV w P k b n F) (e : ∀ i, F i = G i) : MapV w P k b n G := by
  rw [show G = F from (funext e).symm]; exact h
theorem MapV.heap (h : MapV w P k b n F) (e : w'.heap[b]? = w.heap[b]?) : MapV w' P k b n F := by
  obtain ⟨D, ⟨es, clock, hb, Ft, hs, hD⟩, h2⟩ := h
  exact ⟨D, ⟨es, clock, e.trans hb, Ft, hs, hD⟩, h2⟩
theorem MapV.mod {G : Nat → Prop} (h : MapV w P k b n F) (m : Mod G w w') (hn : ¬ G b) : MapV w' P k b n F := h.heap (m.block b h.lt hn)
theorem MapV.below {B : Nat} (h : MapV w P k b n F) (m : Below B w w') (hn : b < B) : MapV w' P k b n F := h.heap (m.block b hn)

theorem wf_i64 {i : Int} (h1 : -9223372036854775808 ≤ i) (h2 : i ≤ 9223372036854775807) : (Lit.int .i64 i).wf = true := by
  simp only [Lit.wf, Bool.and_eq_true, decide_eq_true_eq]
  exact ⟨h1, h2⟩

theorem MapV.look (h : MapV w P k b n F) (hk : P.underlying k = some (.int .i64)) (ht : P.underlying t = some (.map k e)) {z : Value} (hz : (zeroValue e).run P w = .ok z w) {i : Int} (hi : (Lit.int .i64 i).wf = true) :
    (Instr.lookup t (.map (some b)) (.int .i64 i) false).run P w = .ok ((F i).getD z) w := by
  obtain ⟨D, h1, h2⟩ := h
  obtain ⟨v, ps, hrun, hv⟩ := h1.lookup (Maps.int_keyed hk) ht hz (zd := .held z) (zp := []) rfl (Maps.keyOf_int_mk hk hi)
  rw [(h2 i).2 z] at hv
  cases hv
  exact hrun
theorem MapV.look_ok (h : MapV w P k b n F) (hk : P.underlying k = some (.int .i64)) (ht : P.underlying t = some (.map k e)) {z : Value} (hz : (zeroValue e).run P w = .ok z w) {i : Int} (hi : (Lit.int .i64 i).wf = true) :
    (Instr.lookup t (.map (some b)) (.int .i64 i) true).run P w = .ok (.tuple #[(F i).getD z, .bool (F i).isSome]) w := by
  obtain ⟨D, h1, h2⟩ := h
  obtain ⟨v, ps, hrun, hv⟩ := h1.look_ok (Maps.int_keyed hk) ht hz (zd := .held z) (zp := []) rfl (Maps.keyOf_int_mk hk hi)
  rw [(h2 i).2 z] at hv
  rw [(h2 i).1] at hrun
  cases hv
  exact hrun
theorem MapV.store (h : MapV w P k b n F) (hk : P.underlying k = some (.int .i64)) (ht : P.underlying t = some (.map k e)) (hn : n < maxLen) {i : Int} (hi : (Lit.int .i64 i).wf = true) (v : Value) :
    ∃ w', (Instr.mapUpdate t (.map (some b)) (.int .i64 i) v).run P w = .ok () w' ∧ MapV w' P k b (n + 1) (fun j => if j = i then some v else F j) ∧ Mod (fun x => x = b) w w' := by
  obtain ⟨D, h1, h2⟩ := h
  obtain ⟨w', hrun, h3, h4⟩ := h1.update (Maps.int_keyed hk) ht hn (Maps.keyOf_int_mk hk hi) (d := .held v) (ps := []) rfl
  refine ⟨w', hrun, ⟨_, h3, fun j => ?_⟩, (Mod.refl _ w).grown h4 (fun x hx _ => by injection hx with hx; exact hx.symm)⟩
  have hI : Maps.IsMap D := h1.isMap
  show Maps.has _ _ = (if j = i then some v else F j).isSome ∧ ∀ z, _ = DataW.held ((if j = i then some v else F j).getD z)
  by_cases hj : j = i
  · subst hj
    rw [if_pos rfl, Maps.has_put_same hI (show WideAt.IsKeyLit (Lit.int .i64 j) from trivial)]
    exact ⟨rfl, fun z => Maps.atKey_put_same hI (show WideAt.IsKeyLit (Lit.int .i64 j) from trivial) _ _⟩
  · have hne : (Lit.int .i64 j) ≠ Lit.int .i64 i := fun e => hj (by injection e)
    rw [if_neg hj, Maps.has_put_other hne]
    exact ⟨(h2 j).1, fun z => (Maps.atKey_put_other hne _ _).trans ((h2 j).2 z)⟩

/-- The store at the operation, for the walk. -/
theorem wpList_storeV {ops : Array Oper} {rest : List Oper} {o : Oper} {a : Act} {Q : Exit → Act → World → Prop}
    (hg : o.guard = none) (m x v : Operand) (hop : o.op = Op.mapUpdate t m x v)
    (hk : P.underlying k = some (.int .i64)) (ht : P.underlying t = some (.map k e)) (hm : a.eval m = .map (some b)) (h : MapV w P k b n F) (hn : n < maxLen) {i : Int} (hi : (Lit.int .i64 i).wf = true) (val : Value) (hx : a.eval x = .int .i64 i) (hv : a.eval v = val)
    (hK : ∀ w', MapV w' P k b (n + 1) (fun j => if j = i then some val else F j) → Mod (fun x => x = b) w w' → wpList P ops Q rest (a.put o.dst undef) w') :
    wpList P ops Q (o :: rest) a w := by
  refine wpList_plain hg fun K' hK' => ?_
  obtain ⟨w', hrun, r1, r2⟩ := h.store hk ht hn hi val
  unfold Oper.wp
  simp [execOp, hop, hm, hx, hv, hrun, Result.andThen]
  exact hK' _ _ (hK w' r1 r2)

end Go.Proofs.YthacjealoomioaaDoor
