/- Several texts in one: LcI, TpG. -/
import Derived.Test.YtlooaipipmiijaaGreatZX07
namespace Go.Proofs.YtlooaipipmiijaaGreat
set_option linter.unusedVariables false
set_option linter.unusedSimpArgs false
inductive Rch (E : Nat → Nat → Prop) (a : Nat) : Nat → Prop
  | refl : Rch E a a
  | step {y z : Nat} (h : Rch E a y) (k : E y z) : Rch E a z
theorem Rch.trans {E : Nat → Nat → Prop} {a b c : Nat} (h : Rch E a b) (k : Rch E b c) : Rch E a c := by
  induction k with
  | refl => exact h
  | step _ e ih => exact .step ih e
theorem Rch.symm {E : Nat → Nat → Prop} (hs : ∀ x y, E x y → E y x) {a b : Nat} (h : Rch E a b) : Rch E b a := by
  induction h with
  | refl => exact .refl
  | step _ e ih => exact (Rch.step .refl (hs _ _ e)).trans ih
theorem Rch.mono {E F : Nat → Nat → Prop} (hs : ∀ x y, E x y → F x y) {a b : Nat} (h : Rch E a b) : Rch F a b := by
  induction h with
  | refl => exact .refl
  | step _ e ih => exact .step ih (hs _ _ e)
theorem Rch.stay {E : Nat → Nat → Prop} {S : Nat → Prop} (hs : ∀ x y, S x → E x y → S y) {a b : Nat} (h : Rch E a b) (ha : S a) : S b := by
  induction h with
  | refl => exact ha
  | step _ e ih => exact hs _ _ ih e
def LG (n : Nat) (E : Nat → Nat → Prop) (key : Nat → Int) (N : NS) : Prop :=
  ∃ T par pk d, LI n N T par pk d ∧ (∀ x y, E x y ↔ VV n x ∧ VV n y ∧ (par x = y ∨ par y = x)) ∧ ∀ x, VV n x → (N x).key = key x
section
variable {n : Nat} {E : Nat → Nat → Prop} {key : Nat → Int} {N : NS}
theorem LG.vv (h : LG n E key N) : ∀ x y, E x y → VV n x ∧ VV n y := by
  obtain ⟨T, par, pk, d, li, he, hk⟩ := h
  exact fun x y e => ⟨((he x y).1 e).1, ((he x y).1 e).2.1⟩
theorem LG.ky (h : LG n E key N) {x : Nat} (hx : VV n x) : (N x).key = key x := by
  obtain ⟨T, par, pk, d, li, he, hk⟩ := h
  exact hk x hx
theorem anc_rch {T : Nat → Sp} {par pk d : Nat → Nat} (li : LI n N T par pk d) (he : ∀ x y, E x y ↔ VV n x ∧ VV n y ∧ (par x = y ∨ par y = x)) {a v : Nat} (k : Anc par a v) (hv : VV n v) : Rch E a v := by
  induction k with
  | refl => exact .refl
  | up h0 _ ih =>
    have h1 := (li.rk _ hv).resolve_left h0
    exact .step (ih h1.1) ((he _ _).2 ⟨h1.1, hv, .inr rfl⟩)
theorem rch_conn {T : Nat → Sp} {par pk d : Nat → Nat} (li : LI n N T par pk d) (he : ∀ x y, E x y ↔ VV n x ∧ VV n y ∧ (par x = y ∨ par y = x)) {a b : Nat} (ha : VV n a) (hb : VV n b) : Rch E a b ↔ Conn par a b := by
  constructor
  · intro k
    refine k.stay (S := fun y => Conn par a y) (fun x y h e => h.trans ?_) ?_
    · obtain ⟨hx, hy, e⟩ := (he x y).1 e
      rcases e with e | e
      · exact (li.rk.conn (.up (by rw [e]; have := hy.1; omega) (by rw [e]; exact .refl)) hx).symm
      · exact li.rk.conn (.up (by rw [e]; have := hx.1; omega) (by rw [e]; exact .refl)) hy
    · obtain ⟨r, _, h1, h2⟩ := li.rk.top (d a + 1) a (by omega) ha
      exact ⟨r, h1, h2, h2⟩
  · rintro ⟨r, h1, h2, h3⟩
    have hs : ∀ x y, E x y → E y x := fun x y e => by obtain ⟨a, b, c⟩ := (he x y).1 e; exact (he y x).2 ⟨b, a, c.symm⟩
    exact ((anc_rch li he h2 ha).symm hs).trans (anc_rch li he h3 hb)
theorem LG.conn (h : LG n E key N) {a b : Nat} (ha : VV n a) (hb : VV n b) (hab : a ≠ b) : ∃ N1 b1 N2 b2, ExposeR N a N1 b1 ∧ ExposeR N1 b N2 b2 ∧ LG n E key N1 ∧ LG n E key N2 ∧ ((N2 a).up ≠ 0 ↔ Rch E a b) := by
  obtain ⟨T, par, pk, d, li, he, hk⟩ := h
  obtain ⟨N1, T1, pk1, A1, b1, h1, _, x1⟩ := li.expose ha
  obtain ⟨N2, T2, pk2, A2, b2, h2, _, x2⟩ := x1.li.expose hb
  have k1 : ∀ x, VV n x → (N1 x).key = key x := fun x hx => by rw [x1.key]; exact hk x hx
  refine ⟨N1, b1, N2, b2, h1, h2, ⟨T1, par, pk1, d, x1.li, he, k1⟩, ⟨T2, par, pk2, d, x2.li, he, fun x hx => by rw [x2.key]; exact k1 x hx⟩, ?_⟩
  rw [rch_conn li he ha hb]
  constructor
  · intro hu
    by_cases c : Conn par a b
    · exact c
    · rw [(x2.fr a ha c).1, x1.up] at hu; exact absurd rfl hu
  · intro c hu
    obtain ⟨r, P, Q⟩ := x2.li.pthE hb x2.ti x2.up x2.pki
    by_cases hm : a ∈ (T2 b).els
    ·
      obtain ⟨w, r1, r2⟩ := x2.li.ex b hb
      rw [x2.ti] at hm r1
      rcases List.mem_append.1 hm with hm | hm
      · rcases rep_up_mem r1.2.2.2.2.1 hm with e | e
        · rw [hu] at e; have := hb.1; omega
        · rw [hu] at e; exact rep_nz r1.2.2.2.2.1 0 e rfl
      · rcases List.mem_cons.1 hm with e | e
        · exact hab e
        · exact absurd e List.not_mem_nil
    · obtain ⟨u, x, L, r1, r2, r3, r4, r5, r6, r7, r8⟩ := x2.li.pth ha
      rcases rep_up_mem r1 (x2.li.mem a ha) with e | e
      ·
        rw [hu] at e
        rw [← e] at r5
        have hx : x = r := (r7 a (x2.li.mem a ha)).1.top_uniq (by
          obtain ⟨r', q1, q2, q3⟩ := c
          have := (Q.up b (Q.cl b .refl)).top_uniq q3 Q.pr q1
          rw [this]; exact q2) r5 Q.pr
        have h3 : r ∈ (T2 b).els := (Q.mem r).1 (Q.cl r (Q.up b (Q.cl b .refl)))
        have h4 : r ∈ (T2 a).els := by rw [← hx]; exact (r4 x).1 (.head _)
        exact hm (by rw [← x2.li.disj ha hb h4 h3]; exact x2.li.mem a ha)
      · rw [hu] at e; exact rep_nz r1 0 e rfl
theorem LG.size (h : LG n E key N) {a : Nat} (ha : VV n a) : ∃ N1 b1, ExposeR N a N1 b1 ∧ LG n E key N1 ∧ (N1 a).tot = cntP (fun x => VV n x ∧ Rch E a x) (n + 1) := by
  obtain ⟨T, par, pk, d, li, he, hk⟩ := h
  obtain ⟨N1, T1, pk1, A1, b1, h1, _, x1⟩ := li.expose ha
  refine ⟨N1, b1, h1, ⟨T1, par, pk1, d, x1.li, he, fun x hx => by rw [x1.key]; exact hk x hx⟩, ?_⟩
  obtain ⟨r, P, Q⟩ := x1.li.pthE ha x1.ti x1.up x1.pki
  obtain ⟨w, q1, q2⟩ := x1.li.ex a ha
  have ht := (x1.li.tots q1 (x1.li.agg a ha) q2 fun y hy => (x1.li.own a y ha hy).1).1
  rw [Q.eq, Q.hd, x1.ti] at ht
  rw [show (N1 a).tot = _ from ht]
  have : sub n par r = cntP (fun x => VV n x ∧ Rch E a x) (n + 1) := cntP_congr _ fun x _ => by
    constructor
    · rintro ⟨hx, k⟩
      exact ⟨hx, (rch_conn li he ha hx).2 ⟨r, Q.pr, Q.up a (Q.cl a .refl), k⟩⟩
    · rintro ⟨hx, k⟩
      obtain ⟨r', c1, c2, c3⟩ := (rch_conn li he ha hx).1 k
      have := (Q.up a (Q.cl a .refl)).top_uniq c2 Q.pr c1
      rw [this]; exact ⟨hx, c3⟩
  rw [this]
def flN (N : NS) (i : Nat) : NS := updN N i { N i with fl := true }
theorem LG.lead (h : LG n E key N) {a : Nat} (ha : VV n a) : ∃ N1 b1, ExposeR N a N1 b1 ∧ b1 ≤ n ∧ LG n E key N1 ∧ LG n E key (flN N1 a) ∧
    ∃ T par pk d, LI n (flN N1 a) T par pk d ∧ (∀ x y, E x y ↔ VV n x ∧ VV n y ∧ (par x = y ∨ par y = x)) ∧ par a = 0 ∧ (T a).root = a := by
  obtain ⟨T, par, pk, d, li, he, hk⟩ := h
  obtain ⟨N1, T1, pk1, A1, b1, h1, hb1, x1⟩ := li.expose ha
  obtain ⟨par', pk', d', li', p0, hadj⟩ := x1.li.flip ha x1.ti x1.fl x1.up x1.pki
  have k1 : ∀ x, VV n x → (N1 x).key = key x := fun x hx => by rw [x1.key]; exact hk x hx
  have he' : ∀ x y, E x y ↔ VV n x ∧ VV n y ∧ (par' x = y ∨ par' y = x) := fun x y => by
    rw [he x y]
    exact ⟨fun ⟨a, b, c⟩ => ⟨a, b, (hadj x y a b).2 c⟩, fun ⟨a, b, c⟩ => ⟨a, b, (hadj x y a b).1 c⟩⟩
  refine ⟨N1, b1, h1, hb1, ⟨T1, par, pk1, d, x1.li, he, k1⟩, ⟨T1, par', pk', d', li', he', fun x hx => ?_⟩, T1, par', pk', d', li', he', p0, by rw [x1.ti]; rfl⟩
  unfold flN
  by_cases e : x = a
  · subst e; rw [uN_same]; exact k1 x hx
  · rw [uN_ne _ _ e]; exact k1 x hx
structure Way (n : Nat) (E : Nat → Nat → Prop) (key : Nat → Int) (a b m : Nat) : Prop where
  conn : Rch (fun x y => E x y ∧ (¬ (key x < key m ∨ key x = key m ∧ x < m)) ∧ ¬ (key y < key m ∨ key y = key m ∧ y < m)) a b
  enda : ¬ (key a < key m ∨ key a = key m ∧ a < m)
  endb : ¬ (key b < key m ∨ key b = key m ∧ b < m)
  vm : VV n m
  sep : m ≠ a → m ≠ b → ¬ Rch (fun x y => E x y ∧ x ≠ m ∧ y ≠ m) a b
theorem path_up {T : Nat → Sp} {par pk d : Nat → Nat} {i r : Nat} {P : List Nat} (Q : PthE n N T par pk d i r P) {S : Nat → Prop} {F : Nat → Nat → Prop} (hS : ∀ x, x ∈ P → S x) (hF : ∀ x, x ∈ P → S x → S (par x) → par x ∈ P → F (par x) x) : ∀ v, v ∈ P → Rch F r v := by
  have go : ∀ v, Anc par r v → v ∈ P → Rch F r v := fun v k => by
    induction k with
    | refl => exact fun _ => .refl
    | @up w h0 _ ih =>
      intro hw
      have hp := (Q.sg.par_mem w hw).resolve_left h0
      exact .step (ih hp) (hF w hw (hS w hw) (hS _ hp) hp)
  exact fun v hv => go v (Q.up v hv) hv
theorem LG.path (h : LG n E key N) {a b : Nat} (ha : VV n a) (hb : VV n b) (hc : Rch E a b) : ∃ N1 b1 N3 b3, ExposeR N a N1 b1 ∧ ExposeR (flN N1 a) b N3 b3 ∧ LG n E key N1 ∧ LG n E key (flN N1 a) ∧ LG n E key N3 ∧ Way n E key a b (N3 b).fst ∧ (E a b → (N3 b).sz = 2) := by
  obtain ⟨N1, b1, h1, _, g1, g2, T, par, pk, d, li, he, pa, _⟩ := h.lead ha
  obtain ⟨N3, T3, pk3, A3, b3, h3, _, x3⟩ := li.expose hb
  have k2 : ∀ x, VV n x → (flN N1 a x).key = key x := fun x hx => g2.ky hx
  have k3 : ∀ x, VV n x → (N3 x).key = key x := fun x hx => by rw [x3.key]; exact k2 x hx
  obtain ⟨r, P, Q⟩ := x3.li.pthE hb x3.ti x3.up x3.pki
  have hbP : b ∈ P := Q.cl b .refl
  have hra : r = a := by
    obtain ⟨r', c1, c2, c3⟩ := (rch_conn li he ha hb).1 hc
    have e := c2.of_root pa
    subst e
    exact (Q.up b hbP).top_uniq c3 Q.pr c1
  subst hra
  have hrP : r ∈ P := Q.cl r (Q.up b hbP)
  have ok := agg_root (x3.li.agg b hb) (by rw [x3.ti]; show b ≠ 0; have := hb.1; omega)
  rw [show (T3 b).root = b by rw [x3.ti]; rfl] at ok
  have hmP : (N3 b).fst ∈ P := (Q.mem _).2 ok.fst.mem
  have hmin : ∀ x, x ∈ P → ¬ (key x < key (N3 b).fst ∨ key x = key (N3 b).fst ∧ x < (N3 b).fst) := fun x hx => by
    have := bef_not.1 (ok.fst.le x ((Q.mem x).1 hx))
    rw [k3 x (Q.vv x hx), k3 _ (Q.vv _ hmP)] at this
    exact this
  refine ⟨N1, b1, N3, b3, h1, h3, g1, g2, ⟨T3, par, pk3, d, x3.li, he, k3⟩, ⟨?_, hmin r hrP, hmin b hbP, Q.vv _ hmP, ?_⟩, ?_⟩
  · refine path_up Q (S := fun x => VV n x) (fun x hx => Q.vv x hx) (fun x hx hxv hpv hp => ⟨(he _ _).2 ⟨hpv, hxv, .inr rfl⟩, hmin _ hp, hmin x hx⟩) b hbP
  · intro hm1 hm2 k
    generalize (N3 b).fst = m at *
    have hmb : Anc par m b := Q.dn m hmP
    have := (k.symm (fun x y h => ⟨by obtain ⟨a, b, c⟩ := (he x y).1 h.1; exact (he y x).2 ⟨b, a, c.symm⟩, h.2.2, h.2.1⟩)).stay (S := fun x => Anc par m x) (fun x y hx e => by
      obtain ⟨e1, e2, e3⟩ := e
      obtain ⟨v1, v2, e4⟩ := (he x y).1 e1
      rcases e4 with e4 | e4
      · cases hx with
        | refl => exact absurd rfl e2
        | up _ k => rw [e4] at k; exact k
      · exact .up (by rw [e4]; have := v1.1; omega) (by rw [e4]; exact hx)) hmb
    exact hm1 (this.of_root pa)
  · intro e
    have hpb : par b = r := by
      rcases ((he r b).1 e).2.2 with e2 | e2
      · rw [pa] at e2; have := hb.1; omega
      · exact e2
    have hlen : (N3 b).sz = P.length := by
      rw [ok.sz, ← (sq_perm (N := N3)).length_eq, Q.eq]
    have hrb : r ≠ b := fun e2 => by rw [← e2, pa] at hpb; have := ha.1; omega
    have hpk := Q.pknz hrP hrb
    have hz : (0 : Nat) ∉ P := fun hm => by have := (Q.vv 0 hm).1; omega
    have hpkr : pk3 r = b := by
      have := Q.sg.pk_par hz Q.nod b hbP (by rw [hpb]; exact hrP)
      rw [hpb] at this; exact this
    cases hP : P with
    | nil => rw [hP] at hrP; exact absurd hrP List.not_mem_nil
    | cons x L =>
      have hxr : x = r := by have := Q.hd; rw [hP] at this; exact this
      have hs := Q.sg
      rw [hP, hxr] at hs
      cases L with
      | nil => have := hs.2.1; rw [hpkr] at this; have := hb.1; have : b = 0 := by assumption
               omega
      | cons y L =>
        have hyb : y = b := by have := hs.2.1; rw [hpkr] at this; exact this.symm
        cases L with
        | nil => rw [hlen, hP]; rfl
        | cons z L =>
          have h4 := hs.2.2.2.1
          rw [hyb, x3.pki] at h4
          exact absurd (by rw [hP, h4]; exact .tail _ (.tail _ (.head _))) hz
theorem LG.link (h : LG n E key N) {a b : Nat} (ha : VV n a) (hb : VV n b) (hc : ¬ Rch E a b) : ∃ N1 b1 N3 b3, ExposeR N a N1 b1 ∧ ExposeR (flN N1 a) b N3 b3 ∧ LG n E key N1 ∧ LG n E key (flN N1 a) ∧ LG n E key N3 ∧ (N3 b).k0 ≠ b ∧ (N3 b).k1 ≠ b ∧ a ≠ b ∧
    LG n (fun x y => E x y ∨ (x = a ∧ y = b) ∨ (x = b ∧ y = a)) key (lnkN N3 a b) := by
  obtain ⟨N1, b1, h1, _, g1, g2, T, par, pk, d, li, he, pa, hta⟩ := h.lead ha
  obtain ⟨N3, T3, pk3, A3, b3, h3, _, x3⟩ := li.expose hb
  have k3 : ∀ x, VV n x → (N3 x).key = key x := fun x hx => by rw [x3.key]; exact g2.ky hx
  have hnc : ¬ Conn par a b := fun k => hc ((rch_conn li he ha hb).2 k)
  have hab : a ≠ b := fun e => hc (by rw [e]; exact .refl)
  obtain ⟨par', d', li', hadj, p0, p1⟩ := x3.li.link ha hb (by rw [(x3.fr a ha hnc).2]; exact hta) pa x3.ti x3.fl x3.up x3.pki hnc
  refine ⟨N1, b1, N3, b3, h1, h3, g1, g2, ⟨T3, par, pk3, d, x3.li, he, k3⟩, p0, p1, hab, T3, par', pk3, d', li', fun x y => ?_, fun x hx => ?_⟩
  · show (E x y ∨ (x = a ∧ y = b) ∨ (x = b ∧ y = a)) ↔ _
    rw [he x y]
    constructor
    · rintro (⟨v1, v2, e⟩ | e | e)
      · exact ⟨v1, v2, (hadj x y v1 v2).2 (.inl e)⟩
      · rw [e.1, e.2]; exact ⟨ha, hb, (hadj a b ha hb).2 (.inr (.inl ⟨rfl, rfl⟩))⟩
      · rw [e.1, e.2]; exact ⟨hb, ha, (hadj b a hb ha).2 (.inr (.inr ⟨rfl, rfl⟩))⟩
    · rintro ⟨v1, v2, e⟩
      rcases (hadj x y v1 v2).1 e with e | e
      · exact .inl ⟨v1, v2, e⟩
      · exact .inr e
  · rw [← k3 x hx]
    unfold lnkN
    rw [(ref_rest _ b x).2.2.2.2.1]
    by_cases e : x = b
    · rw [e, uN_same]
    · rw [uN_ne _ _ e]
      by_cases e2 : x = a
      · rw [e2, uN_same]
      · rw [uN_ne _ _ e2]
theorem LG.cut (h : LG n E key N) {a b : Nat} (hE : E a b) : ∃ N1 b1 N3 b3, ExposeR N a N1 b1 ∧ ExposeR (flN N1 a) b N3 b3 ∧ LG n E key N1 ∧ LG n E key (flN N1 a) ∧ LG n E key N3 ∧ (N3 b).k1 ≠ b ∧ a ≠ b ∧
    LG n (fun x y => E x y ∧ ¬ (x = a ∧ y = b) ∧ ¬ (x = b ∧ y = a)) key (cutN N3 a b) := by
  have hc : Rch E a b := .step .refl hE
  obtain ⟨ha, hb⟩ := h.vv a b hE
  obtain ⟨N1, b1, h1, _, g1, g2, T, par, pk, d, li, he, pa, hta⟩ := h.lead ha
  obtain ⟨N3, T3, pk3, A3, b3, h3, _, x3⟩ := li.expose hb
  have k3 : ∀ x, VV n x → (N3 x).key = key x := fun x hx => by rw [x3.key]; exact g2.ky hx
  have hpb : par b = a := by
    rcases ((he a b).1 hE).2.2 with e2 | e2
    · rw [pa] at e2; have := hb.1; omega
    · exact e2
  have hab : a ≠ b := fun e => by rw [← e, pa] at hpb; have := ha.1; omega
  obtain ⟨r, P, Q⟩ := x3.li.pthE hb x3.ti x3.up x3.pki
  have hbP : b ∈ P := Q.cl b .refl
  have hra : r = a := by
    obtain ⟨r', c1, c2, c3⟩ := (rch_conn li he ha hb).1 hc
    have e := c2.of_root pa
    subst e
    exact (Q.up b hbP).top_uniq c3 Q.pr c1
  subst hra
  have hrP : r ∈ P := Q.cl r (Q.up b hbP)
  have hsz : (N3 b).sz = 2 := by
    have ok := agg_root (x3.li.agg b hb) (by rw [x3.ti]; show b ≠ 0; have := hb.1; omega)
    rw [show (T3 b).root = b by rw [x3.ti]; rfl] at ok
    have hlen : (N3 b).sz = P.length := by rw [ok.sz, ← (sq_perm (N := N3)).length_eq, Q.eq]
    have hz : (0 : Nat) ∉ P := fun hm => by have := (Q.vv 0 hm).1; omega
    have hpkr : pk3 r = b := by
      have := Q.sg.pk_par hz Q.nod b hbP (by rw [hpb]; exact hrP)
      rw [hpb] at this; exact this
    cases hP : P with
    | nil => rw [hP] at hrP; exact absurd hrP List.not_mem_nil
    | cons x L =>
      have hxr : x = r := by have := Q.hd; rw [hP] at this; exact this
      have hs := Q.sg
      rw [hP, hxr] at hs
      cases L with
      | nil =>
        have h0 : pk3 r = 0 := hs.2.1
        rw [hpkr] at h0; have := hb.1; omega
      | cons y L =>
        have hyb : y = b := by have h0 : pk3 r = y := hs.2.1; rw [hpkr] at h0; exact h0.symm
        cases L with
        | nil => rw [hlen, hP]; rfl
        | cons z L =>
          have h4 : pk3 y = z := hs.2.2.2.1
          rw [hyb, x3.pki] at h4
          exact absurd (by rw [hP, ← h4]; exact .tail _ (.tail _ (.head _))) hz
  obtain ⟨T', par', pk', li', hpb', hadj, p1⟩ := x3.li.cut ha hb pa ((rch_conn li he ha hb).1 hc) x3.ti x3.fl x3.up x3.pki hsz
  refine ⟨N1, b1, N3, b3, h1, h3, g1, g2, ⟨T3, par, pk3, d, x3.li, he, k3⟩, p1, hab, T', par', pk', d, li', fun x y => ?_, fun x hx => ?_⟩
  · show (E x y ∧ ¬ (x = r ∧ y = b) ∧ ¬ (x = b ∧ y = r)) ↔ _
    rw [he x y]
    constructor
    · rintro ⟨⟨v1, v2, e⟩, e2⟩
      exact ⟨v1, v2, (hadj x y v1 v2).2 ⟨e, e2⟩⟩
    · rintro ⟨v1, v2, e⟩
      obtain ⟨e1, e2⟩ := (hadj x y v1 v2).1 e
      exact ⟨⟨v1, v2, e1⟩, e2⟩
  · rw [← k3 x hx]
    unfold cutN
    rw [(ref_rest _ b x).2.2.2.2.1]
    by_cases e : x = b
    · rw [e, uN_same]
    · rw [uN_ne _ _ e]
      by_cases e2 : x = r
      · rw [e2, uN_same]
      · rw [uN_ne _ _ e2]
theorem LG.setKey (h : LG n E key N) {v : Nat} (hv : VV n v) (k : Int) : ∃ N1 b1, ExposeR N v N1 b1 ∧ LG n E key N1 ∧ (N1 v).k0 ≠ v ∧ (N1 v).k1 ≠ v ∧ LG n E (fun x => if x = v then k else key x) (keyN N1 v k) := by
  obtain ⟨T, par, pk, d, li, he, hk⟩ := h
  obtain ⟨N1, T1, pk1, A1, b1, h1, _, x1⟩ := li.expose hv
  have k1 : ∀ x, VV n x → (N1 x).key = key x := fun x hx => by rw [x1.key]; exact hk x hx
  obtain ⟨li', q1, q2, q3, q4⟩ := x1.li.setKey hv x1.ti k
  refine ⟨N1, b1, h1, ⟨T1, par, pk1, d, x1.li, he, k1⟩, q3, q4, T1, par, pk1, d, li', he, fun x hx => ?_⟩
  show _ = if x = v then k else key x
  by_cases e : x = v
  · rw [e, q2, if_pos rfl]
  · rw [q1 x e, if_neg e]; exact k1 x hx
theorem LG.init (hn : n ≤ 1000000) : LG n (fun _ _ => False) (fun _ => 0) (ini n) :=
  ⟨_, _, _, _, LI.init hn, fun x y => ⟨False.elim, fun ⟨h1, h2, e⟩ => by
    rcases e with e | e
    · have := h2.1; omega
    · have := h1.1; omega⟩, fun x hx => by rw [show ini n x = _ from if_pos hx]⟩
end
end Go.Proofs.YtlooaipipmiijaaGreat

namespace Go.Proofs.YtlooaipipmiijaaGreat
set_option linter.unusedVariables false
set_option linter.unusedSimpArgs false
structure GE where
  a : Nat
  b : Nat
  exp : Int
def Lnk (g : Nat → GE) (X : Nat → Prop) (u v : Nat) : Prop := ∃ s, X s ∧ ((g s).a = u ∧ (g s).b = v ∨ (g s).a = v ∧ (g s).b = u)
theorem Lnk.sym {g : Nat → GE} {X : Nat → Prop} : ∀ u v, Lnk g X u v → Lnk g X v u := fun u v ⟨s, h, e⟩ => ⟨s, h, e.symm⟩
theorem Lnk.mono {g : Nat → GE} {X Y : Nat → Prop} (h : ∀ s, X s → Y s) : ∀ u v, Lnk g X u v → Lnk g Y u v := fun u v ⟨s, k, e⟩ => ⟨s, h s k, e⟩
def Nb (g : Nat → GE) (s t : Nat) : Prop := (g t).exp < (g s).exp ∨ (g t).exp = (g s).exp ∧ t ≤ s
theorem Nb.refl (g : Nat → GE) (s : Nat) : Nb g s s := .inr ⟨rfl, Nat.le_refl s⟩
theorem Nb.trans {g : Nat → GE} {s t u : Nat} (h : Nb g s t) (k : Nb g t u) : Nb g s u := by unfold Nb at *; omega
theorem Nb.anti {g : Nat → GE} {s t : Nat} (h : Nb g s t) (k : Nb g t s) : s = t := by unfold Nb at *; omega
theorem rch_add {g : Nat → GE} {X : Nat → Prop} {m : Nat} {a y : Nat} (h : Rch (Lnk g fun s => X s ∨ s = m) a y) :
    Rch (Lnk g X) a y ∨ (Rch (Lnk g X) a (g m).a ∧ Rch (Lnk g X) (g m).b y) ∨ (Rch (Lnk g X) a (g m).b ∧ Rch (Lnk g X) (g m).a y) := by
  induction h with
  | refl => exact .inl .refl
  | @step y z h k ih =>
    obtain ⟨s, hs, e⟩ := k
    rcases hs with hs | hs
    · have st : Lnk g X y z := ⟨s, hs, e⟩
      rcases ih with i | ⟨i, j⟩ | ⟨i, j⟩
      · exact .inl (.step i st)
      · exact .inr (.inl ⟨i, .step j st⟩)
      · exact .inr (.inr ⟨i, .step j st⟩)
    · subst hs
      rcases e with ⟨e1, e2⟩ | ⟨e1, e2⟩
      · subst e1 e2
        rcases ih with i | ⟨i, j⟩ | ⟨i, j⟩
        · exact .inr (.inl ⟨i, .refl⟩)
        · exact .inr (.inl ⟨i, .refl⟩)
        · exact .inl i
      · subst e1 e2
        rcases ih with i | ⟨i, j⟩ | ⟨i, j⟩
        · exact .inr (.inr ⟨i, .refl⟩)
        · exact .inl i
        · exact .inr (.inr ⟨i, .refl⟩)
def Span (g : Nat → GE) (L F : Nat → Prop) : Prop := ∀ s, L s → Rch (Lnk g fun t => F t ∧ Nb g t s) (g s).a (g s).b
theorem Span.rch {g : Nat → GE} {L F : Nat → Prop} (h : Span g L F) {K : Nat → Prop} (hK : ∀ s t, K s → Nb g t s → K t) {u v : Nat} (k : Rch (Lnk g fun s => L s ∧ K s) u v) : Rch (Lnk g fun s => F s ∧ K s) u v := by
  induction k with
  | refl => exact .refl
  | step _ e ih =>
    obtain ⟨s, ⟨h1, h2⟩, e⟩ := e
    have := (h s h1).mono (Lnk.mono fun t (k : F t ∧ Nb g t s) => (⟨k.1, hK s t h2 k.2⟩ : F t ∧ K t))
    rcases e with ⟨e1, e2⟩ | ⟨e1, e2⟩
    · subst e1 e2; exact ih.trans this
    · subst e1 e2; exact ih.trans (this.symm Lnk.sym)
theorem Span.all {g : Nat → GE} {L F : Nat → Prop} (h : Span g L F) {u v : Nat} (k : Rch (Lnk g L) u v) : Rch (Lnk g F) u v :=
  (h.rch (K := fun _ => True) (fun _ _ _ _ => trivial) (k.mono (Lnk.mono fun s k => ⟨k, trivial⟩))).mono (Lnk.mono fun s k => k.1)
theorem Span.add {g : Nat → GE} {L F : Nat → Prop} (h : Span g L F) (e : Nat) : Span g (fun s => L s ∨ s = e) (fun s => F s ∨ s = e) := fun s hs => by
  rcases hs with hs | hs
  · exact (h s hs).mono (Lnk.mono fun t k => ⟨.inl k.1, k.2⟩)
  · subst hs; exact .step .refl ⟨s, ⟨.inr rfl, Nb.refl g s⟩, .inl ⟨rfl, rfl⟩⟩
theorem Span.skip {g : Nat → GE} {L F : Nat → Prop} (h : Span g L F) {e m : Nat} (hm : Nb g m e) (hw : Rch (Lnk g fun t => F t ∧ Nb g t m) (g e).a (g e).b) : Span g (fun s => L s ∨ s = e) F := fun s hs => by
  rcases hs with hs | hs
  · exact h s hs
  · subst hs; exact hw.mono (Lnk.mono fun t k => ⟨k.1, k.2.trans hm⟩)
theorem Span.swap {g : Nat → GE} {L F : Nat → Prop} (h : Span g L F) {e m : Nat} (hm : Nb g e m) (hem : e ≠ m) (hw : Rch (Lnk g fun t => F t ∧ Nb g t m) (g e).a (g e).b) (hs : ¬ Rch (Lnk g fun t => F t ∧ t ≠ m) (g e).a (g e).b) :
    Span g (fun s => L s ∨ s = e) (fun s => (F s ∧ s ≠ m) ∨ s = e) ∧ Rch (Lnk g fun t => ((F t ∧ t ≠ m) ∨ t = e) ∧ Nb g t m) (g m).a (g m).b := by
  have hmm : Rch (Lnk g fun t => ((F t ∧ t ≠ m) ∨ t = e) ∧ Nb g t m) (g m).a (g m).b := by
    have h1 : Rch (Lnk g fun t => (F t ∧ t ≠ m ∧ Nb g t m) ∨ t = m) (g e).a (g e).b := hw.mono (Lnk.mono fun t k => by
      by_cases c : t = m
      · exact .inr c
      · exact .inl ⟨k.1, c, k.2⟩)
    have up : ∀ {x y}, Rch (Lnk g fun t => F t ∧ t ≠ m ∧ Nb g t m) x y → Rch (Lnk g fun t => ((F t ∧ t ≠ m) ∨ t = e) ∧ Nb g t m) x y := fun k => k.mono (Lnk.mono fun t k => ⟨.inl ⟨k.1, k.2.1⟩, k.2.2⟩)
    have he : Rch (Lnk g fun t => ((F t ∧ t ≠ m) ∨ t = e) ∧ Nb g t m) (g e).a (g e).b := .step .refl ⟨e, ⟨.inr rfl, hm⟩, .inl ⟨rfl, rfl⟩⟩
    rcases rch_add h1 with k | ⟨k1, k2⟩ | ⟨k1, k2⟩
    · exact absurd (k.mono (Lnk.mono fun t k => ⟨k.1, k.2.1⟩)) hs
    · exact (((up k1).symm Lnk.sym).trans he).trans ((up k2).symm Lnk.sym)
    · exact (((((up k1).symm Lnk.sym).trans he).trans ((up k2).symm Lnk.sym))).symm Lnk.sym
  refine ⟨fun s hs' => ?_, hmm⟩
  rcases hs' with hs' | hs'
  · have k := h s hs'
    have go : ∀ y, Rch (Lnk g fun t => F t ∧ Nb g t s) (g s).a y → Rch (Lnk g fun t => ((F t ∧ t ≠ m) ∨ t = e) ∧ Nb g t s) (g s).a y := fun y k => by
      induction k with
      | refl => exact .refl
      | step _ st ih =>
        obtain ⟨t, ⟨h1, h2⟩, e'⟩ := st
        by_cases c : t = m
        · subst c
          have := hmm.mono (Lnk.mono fun w (k : ((F w ∧ w ≠ t) ∨ w = e) ∧ Nb g w t) => (⟨k.1, k.2.trans h2⟩ : ((F w ∧ w ≠ t) ∨ w = e) ∧ Nb g w s))
          rcases e' with ⟨e1, e2⟩ | ⟨e1, e2⟩
          · subst e1 e2; exact ih.trans this
          · subst e1 e2; exact ih.trans (this.symm Lnk.sym)
        · exact .step ih ⟨t, ⟨.inl ⟨h1, c⟩, h2⟩, e'⟩
    exact go _ k
  · subst hs'; exact .step .refl ⟨s, ⟨.inr rfl, Nb.refl g s⟩, .inl ⟨rfl, rfl⟩⟩
theorem Span.drop {g : Nat → GE} {L F : Nat → Prop} (h : Span g L F) {e : Nat} (he : ∀ s, L s → Nb g s e) : Span g (fun s => L s ∧ s ≠ e) (fun s => F s ∧ s ≠ e) := fun s hs =>
  (h s hs.1).mono (Lnk.mono fun t k => ⟨⟨k.1, fun e2 => hs.2 (by subst e2; exact (he s hs.1).anti k.2)⟩, k.2⟩)
def Lst (R : Nat → Nat → Prop) (v : Nat) : Prop := ∀ w, w < v → ¬ R w v
noncomputable def parts (n : Nat) (R : Nat → Nat → Prop) : Nat := cntP (Lst R) n
theorem parts_congr {n : Nat} {R S : Nat → Nat → Prop} (h : ∀ u v, u < n → v < n → (R u v ↔ S u v)) : parts n R = parts n S :=
  cntP_congr _ fun v hv => ⟨fun k w hw r => k w hw ((h w v (by omega) hv).2 r), fun k w hw r => k w hw ((h w v (by omega) hv).1 r)⟩
theorem lst_ex {R : Nat → Nat → Prop} (hr : ∀ x, R x x) (ht : ∀ x y z, R x y → R y z → R x z) : ∀ k v, v < k → ∃ l, l ≤ v ∧ R l v ∧ Lst R l
  | 0, v, h => absurd h (Nat.not_lt_zero v)
  | k + 1, v, h => by
    by_cases c : Lst R v
    · exact ⟨v, Nat.le_refl v, hr v, c⟩
    · have ⟨w, hw⟩ := Classical.not_forall.1 c
      have ⟨hw1, hw2⟩ := Classical.not_imp.1 hw
      obtain ⟨l, l1, l2, l3⟩ := lst_ex hr ht k w (by omega)
      exact ⟨l, by omega, ht l w v l2 (Classical.not_not.1 hw2), l3⟩
theorem lst_uniq {R : Nat → Nat → Prop} (hs : ∀ x y, R x y → R y x) {l l' : Nat} (h : Lst R l) (h' : Lst R l') (k : R l l') : l = l' := by
  rcases Nat.lt_trichotomy l l' with c | c | c
  · exact absurd k (h' l c)
  · exact c
  · exact absurd (hs _ _ k) (h l' c)
theorem parts_join {n a b : Nat} {R S : Nat → Nat → Prop} (ha : a < n) (hb : b < n) (hr : ∀ x, R x x) (hs : ∀ x y, R x y → R y x) (ht : ∀ x y z, R x y → R y z → R x z) (hn : ¬ R a b)
    (hS : ∀ x y, S x y ↔ R x y ∨ (R x a ∧ R b y) ∨ (R x b ∧ R a y)) : parts n S + 1 = parts n R := by
  obtain ⟨p, p1, p2, p3⟩ := lst_ex hr ht (a + 1) a (by omega)
  obtain ⟨q, q1, q2, q3⟩ := lst_ex hr ht (b + 1) b (by omega)
  have hpq : p ≠ q := fun e => hn (ht a p b (hs _ _ p2) (by rw [e]; exact q2))
  have main : ∀ (a b p q : Nat), q < n → R p a → Lst R p → R q b → Lst R q → ¬ R a b → p < q → (∀ x y, S x y ↔ R x y ∨ (R x a ∧ R b y) ∨ (R x b ∧ R a y)) → parts n S + 1 = parts n R := by
    intro a b p q hq p2 p3 q2 q3 hn hpq hS
    have e := cntP_sub (P := fun x => x = q) (Q := Lst R) n fun x hx k => by rw [k]; exact q3
    have e2 : cntP (fun x => x = q) n = 1 := cntP_one n hq fun x _ => Iff.rfl
    have e3 : parts n S = cntP (fun x => Lst R x ∧ ¬ x = q) n := cntP_congr n fun v hv => by
      constructor
      · intro k
        refine ⟨fun w hw r => k w hw ((hS w v).2 (.inl r)), fun e => ?_⟩
        subst e
        exact k p hpq ((hS p v).2 (.inr (.inl ⟨p2, hs _ _ q2⟩)))
      · rintro ⟨k1, k2⟩ w hw r
        rcases (hS w v).1 r with r | ⟨r1, r2⟩ | ⟨r1, r2⟩
        · exact k1 w hw r
        ·
          exact k2 (lst_uniq hs k1 q3 (hs _ _ (ht q b v q2 r2)))
        ·
          have hvp : v = p := lst_uniq hs k1 p3 (hs _ _ (ht p a v p2 r2))
          subst hvp
          have : R q w := ht q b w q2 (hs _ _ r1)
          obtain ⟨l, l1, l2, l3⟩ := lst_ex hr ht (w + 1) w (by omega)
          have : l = q := lst_uniq hs l3 q3 (ht l w q l2 (hs _ _ this))
          omega
    rw [e3]; unfold parts; omega
  rcases Nat.lt_or_gt_of_ne hpq with c | c
  · exact main a b p q (by omega) p2 p3 q2 q3 hn c hS
  · exact main b a q p (by omega) q2 q3 p2 p3 (fun k => hn (hs _ _ k)) c fun x y => by rw [hS x y]; exact ⟨fun h => h.elim .inl fun h => .inr h.symm, fun h => h.elim .inl fun h => .inr h.symm⟩
theorem rch_join (g : Nat → GE) (X : Nat → Prop) (m : Nat) : ∀ x y, Rch (Lnk g fun s => X s ∨ s = m) x y ↔ Rch (Lnk g X) x y ∨ (Rch (Lnk g X) x (g m).a ∧ Rch (Lnk g X) (g m).b y) ∨ (Rch (Lnk g X) x (g m).b ∧ Rch (Lnk g X) (g m).a y) := fun x y => by
  refine ⟨rch_add, fun h => ?_⟩
  have up : ∀ {x y}, Rch (Lnk g X) x y → Rch (Lnk g fun s => X s ∨ s = m) x y := fun k => k.mono (Lnk.mono fun s k => .inl k)
  have hm : Rch (Lnk g fun s => X s ∨ s = m) (g m).a (g m).b := .step .refl ⟨m, .inr rfl, .inl ⟨rfl, rfl⟩⟩
  rcases h with h | ⟨h1, h2⟩ | ⟨h1, h2⟩
  · exact up h
  · exact ((up h1).trans hm).trans (up h2)
  · exact ((up h1).trans (hm.symm Lnk.sym)).trans (up h2)
theorem parts_add {n : Nat} {g : Nat → GE} {X : Nat → Prop} {m : Nat} (ha : (g m).a < n) (hb : (g m).b < n) (hn : ¬ Rch (Lnk g X) (g m).a (g m).b) : parts n (Rch (Lnk g fun s => X s ∨ s = m)) + 1 = parts n (Rch (Lnk g X)) :=
  parts_join ha hb (fun _ => .refl) (fun _ _ h => h.symm Lnk.sym) (fun _ _ _ h k => h.trans k) hn (rch_join g X m)
theorem parts_none (n : Nat) {g : Nat → GE} {X : Nat → Prop} (h : ∀ s, ¬ X s) : parts n (Rch (Lnk g X)) = n := by
  have : ∀ v, Lst (Rch (Lnk g X)) v := fun v w hw r => by
    have : w = v := by
      cases r with
      | refl => rfl
      | step _ k => obtain ⟨s, hs, _⟩ := k; exact absurd hs (h s)
    omega
  have go : ∀ n, cntP (Lst (Rch (Lnk g X))) n = n := fun n => by
    induction n with
    | zero => rfl
    | succ n ih => unfold cntP; rw [ih, if_pos (this n)]
  exact go n
end Go.Proofs.YtlooaipipmiijaaGreat
