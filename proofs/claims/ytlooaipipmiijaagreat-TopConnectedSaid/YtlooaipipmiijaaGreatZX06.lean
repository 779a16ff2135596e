/- Several texts in one: LcG. -/
import Derived.Test.YtlooaipipmiijaaGreatZX05
namespace Go.Proofs.YtlooaipipmiijaaGreat
set_option linter.unusedVariables false
set_option linter.unusedSimpArgs false
theorem Sgm.last {par pk : Nat → Nat} {e : Nat} : ∀ {L : List Nat} {u : Nat}, Sgm par pk u L e → (∀ y, y ∈ L → y ≠ 0) → ∀ z, L.getLast? = some z → ∀ y, y ∈ L → Anc par y z
  | [x], u, h, hn, z, hz, y, hy => by
    rw [List.mem_singleton.1 hy]
    have hz' : x = z := Option.some.inj hz
    rw [hz']; exact .refl
  | x :: w :: L, u, ⟨a, b, c⟩, hn, z, hz, y, hy => by
    have hz' : (w :: L).getLast? = some z := by rw [← hz, List.getLast?_cons_cons]
    have ih := Sgm.last c (fun y hy => hn y (.tail _ hy)) z hz'
    rcases List.mem_cons.1 hy with hy | hy
    · rw [hy]
      exact Anc.trans (.up (by rw [c.1]; exact hn x (.head _)) (by rw [c.1]; exact .refl)) (ih w (.head _))
    · exact ih y hy
theorem Sgm.pk_par {par pk : Nat → Nat} {e : Nat} : ∀ {L : List Nat} {u : Nat}, Sgm par pk u L e → u ∉ L → L.Nodup → ∀ x, x ∈ L → par x ∈ L → pk (par x) = x
  | y :: L, u, ⟨a, b, c⟩, hu, hn, x, hx, hp => by
    obtain ⟨n1, n2⟩ := List.nodup_cons.1 hn
    rcases List.mem_cons.1 hx with h | h
    · subst h; rw [a] at hp; exact absurd hp hu
    · cases L with
      | nil => exact absurd h List.not_mem_nil
      | cons z L =>
        rcases List.mem_cons.1 h with h1 | h1
        · subst h1
          rw [c.1]; exact b
        · rcases List.mem_cons.1 hp with h2 | h2
          ·
            rcases c.2.2.par_mem x h1 with h3 | h3
            · rw [h3] at h2; exact absurd (h2 ▸ List.Mem.head _) n1
            · rw [h2] at h3; exact absurd (List.Mem.tail _ h3) n1
          · exact c.pk_par n1 n2 x h h2
section
variable {n : Nat} {N : NS} {T : Nat → Sp} {par pk d : Nat → Nat}
structure PthE (n : Nat) (N : NS) (T : Nat → Sp) (par pk d : Nat → Nat) (i r : Nat) (P : List Nat) : Prop where
  eq : sq N (T i) = P
  sg : Sgm par pk 0 P 0
  mem : ∀ y, y ∈ P ↔ y ∈ (T i).els
  nod : P.Nodup
  hd : P.headD 0 = r
  rv : VV n r
  pr : par r = 0
  vv : ∀ y, y ∈ P → VV n y
  up : ∀ y, y ∈ P → Anc par r y
  dn : ∀ y, y ∈ P → Anc par y i
  cl : ∀ y, Anc par y i → y ∈ P
theorem LI.pthE (h : LI n N T par pk d) {i : Nat} {A : Sp} (hi : VV n i) (ht : T i = .node A i .nil) (hu : (N i).up = 0) (hp : pk i = 0) : ∃ r P, PthE n N T par pk d i r P := by
  obtain ⟨u, x, L, r1, r2, r3, r4, r5, r6, r7, r8⟩ := h.pth hi
  have hu0 : u = 0 := by rw [ht] at r1; rw [← hu]; exact r1.2.1.symm
  rw [hu0] at r3 r5
  have hv : ∀ y, y ∈ x :: L → VV n y := fun y hy => (h.own i y hi ((r4 y).1 hy)).1
  have hn : (x :: L).Nodup := by rw [← r2]; exact (sq_perm (N := N)).nodup_iff.2 (h.nod i hi)
  have hi' : i ∈ x :: L := (r4 i).2 (h.mem i hi)
  have hnz : ∀ y, y ∈ x :: L → y ≠ 0 := fun y hy => by have := (hv y hy).1; omega
  have hlast : (x :: L).getLast? = some i := by
    obtain ⟨A', B', e⟩ := List.append_of_mem hi'
    rw [e] at r3
    obtain ⟨_, _, c, c2⟩ := Sgm.app.1 r3
    rw [hp] at c
    cases B' with
    | nil => rw [e]; exact List.getLast?_concat
    | cons z B' => exact absurd c.symm (hnz z (by rw [e]; exact List.mem_append.2 (.inr (.tail _ (.head _)))))
  have hcl : ∀ y, Anc par y i → y ∈ x :: L := by
    have go : ∀ z y, Anc par y z → z ∈ x :: L → y ∈ x :: L := fun z y k => by
      induction k with
      | refl => exact id
      | up h0 _ ih =>
        intro hz
        rcases r3.par_mem _ hz with e | e
        · exact absurd e h0
        · exact ih e
    exact fun y k => go i y k hi'
  exact ⟨x, x :: L, r2, r3, r4, hn, rfl, r6, r5, hv, fun y hy => (r7 y ((r4 y).1 hy)).1, fun y hy => r3.last hnz i hlast y hy, hcl⟩
theorem LI.flip (h : LI n N T par pk d) {i : Nat} {A : Sp} (hi : VV n i) (ht : T i = .node A i .nil) (hf : (N i).fl = false) (hu : (N i).up = 0) (hp : pk i = 0) :
    ∃ par' pk' d', LI n (updN N i { N i with fl := true }) T par' pk' d' ∧ par' i = 0 ∧ (∀ x y, VV n x → VV n y → ((par' x = y ∨ par' y = x) ↔ (par x = y ∨ par y = x))) := by
  obtain ⟨r, P, Q⟩ := h.pthE hi ht hu hp
  have i0 : i ≠ 0 := by have := hi.1; omega
  have pnz : ∀ y, y ∈ P → y ≠ 0 := fun y hy => by have := (Q.vv y hy).1; omega
  have hrP : r ∈ P := Q.cl r (Q.up i ((Q.mem i).2 (h.mem i hi)))
  have hiP : i ∈ P := (Q.mem i).2 (h.mem i hi)
  let par' : Nat → Nat := fun x => if x ∈ P then pk x else par x
  let pk' : Nat → Nat := fun x => if x ∈ P then par x else pk x
  let d' : Nat → Nat := fun x => if x ∈ P then d i - d x else d x + d i + 1
  have a1 : ∀ x, x ∈ P → par' x = pk x := fun x hx => if_pos hx
  have a2 : ∀ x, x ∉ P → par' x = par x := fun x hx => if_neg hx
  have b1 : ∀ x, x ∈ P → pk' x = par x := fun x hx => if_pos hx
  have b2 : ∀ x, x ∉ P → pk' x = pk x := fun x hx => if_neg hx
  have c1 : ∀ x, x ∈ P → d' x = d i - d x := fun x hx => if_pos hx
  have c2 : ∀ x, x ∉ P → d' x = d x + d i + 1 := fun x hx => if_neg hx
  have dle : ∀ x, x ∈ P → d x ≤ d i := fun x hx => by
    rcases (h.rk.anc (Q.dn x hx) hi).2 with e | e
    · rw [e]; exact Nat.le_refl _
    · omega
  have pkm : ∀ x, x ∈ P → pk x = 0 ∨ pk x ∈ P ∧ par (pk x) = x := fun x hx => Q.sg.pk_mem x hx
  have parm : ∀ x, x ∈ P → par x = 0 ∨ par x ∈ P := fun x hx => Q.sg.par_mem x hx
  have dlt : ∀ x, x ∈ P → pk x ≠ 0 → d x < d (pk x) := fun x hx hp0 => by
    obtain ⟨e1, e2⟩ := (pkm x hx).resolve_left hp0
    rcases h.rk (pk x) (Q.vv _ e1) with e | ⟨_, e⟩
    · rw [e2] at e; exact absurd e (pnz x hx)
    · rw [e2] at e; exact e
  have z0 : (0 : Nat) ∉ P := fun hm => pnz 0 hm rfl
  have pkpar : ∀ x, x ∈ P → par x ∈ P → pk (par x) = x := fun x hx hp' => Q.sg.pk_par z0 Q.nod x hx hp'
  have out : ∀ v, VV n v → v ∉ P → ∀ x, x ∈ (T v).els → x ∉ P := fun v hv hn x hx hm => hn ((Q.mem v).2 (by rw [← h.disj hv hi hx ((Q.mem x).1 hm)]; exact h.mem v hv))
  have rk' : Rk n par' d' := fun x hx => by
    by_cases c : x ∈ P
    · rw [a1 x c, c1 x c]
      by_cases e : pk x = 0
      · exact .inl e
      · obtain ⟨e1, e2⟩ := (pkm x c).resolve_left e
        have := dlt x c e
        have := dle _ e1
        exact .inr ⟨Q.vv _ e1, by rw [c1 _ e1]; omega⟩
    · rw [a2 x c, c2 x c]
      rcases h.rk x hx with e | ⟨e1, e2⟩
      · exact .inl e
      · refine .inr ⟨e1, ?_⟩
        by_cases c' : par x ∈ P
        · rw [c1 _ c']; omega
        · rw [c2 _ c']; omega
  have ancP : ∀ x y, Anc par x y → y ∈ P → x ∈ P := fun x y k hy => Q.cl x (k.trans (Q.dn y hy))
  have nkx : ∀ x, x ∈ P → ¬ Anc par (pk x) x := fun x hx k => by
    by_cases e : pk x = 0
    · rw [e] at k; exact pnz x hx k.zero
    · have := dlt x hx e
      rcases (h.rk.anc k (Q.vv x hx)).2 with e2 | e2
      · rw [e2] at this; omega
      · omega
  have ancOut : ∀ x, x ∉ P → VV n x → ∀ y, VV n y → (Anc par' x y ↔ Anc par x y) := fun x hx hxv y hy => by
    constructor
    · intro k
      induction k with
      | refl => exact .refl
      | @up v h0 k ih =>
        have hv' := (rk' v hy).resolve_left h0
        have k2 := ih hv'.1
        by_cases c : v ∈ P
        · rw [a1 v c] at h0 k2
          exact absurd (ancP x _ k2 ((pkm v c).resolve_left h0).1) hx
        · rw [a2 v c] at h0 k2
          exact .up h0 k2
    · intro k
      induction k with
      | refl => exact .refl
      | @up v h0 k ih =>
        have hv' := (h.rk v hy).resolve_left h0
        have k2 := ih hv'.1
        have c : v ∉ P := fun c => hx (ancP x v (.up h0 k) c)
        refine .up (by rw [a2 v c]; exact h0) (by rw [a2 v c]; exact k2)
  have ancIn : ∀ x, x ∈ P → ∀ y, VV n y → (Anc par' x y ↔ Anc par r y ∧ ¬ Anc par (pk x) y) := fun x hx y hy => by
    constructor
    · intro k
      induction k with
      | refl => exact ⟨Q.up x hx, nkx x hx⟩
      | @up v h0 k ih =>
        have hv' := (rk' v hy).resolve_left h0
        obtain ⟨k1, k2⟩ := ih hv'.1
        by_cases c : v ∈ P
        · rw [a1 v c] at h0 k1 k2
          refine ⟨Q.up v c, fun k3 => k2 ?_⟩
          have e2 := ((pkm v c).resolve_left h0).2
          exact .up (by rw [e2]; exact pnz v c) (by rw [e2]; exact k3)
        · rw [a2 v c] at h0 k1 k2
          refine ⟨.up h0 k1, fun k3 => ?_⟩
          cases k3 with
          | refl =>
            rcases pkm x hx with e | e
            · rw [e] at hy; have := hy.1; omega
            · exact c e.1
          | up _ k4 => exact k2 k4
    · have go : ∀ k y, d' y < k → VV n y → Anc par r y → ¬ Anc par (pk x) y → Anc par' x y := by
        intro k
        induction k with
        | zero => intro y hk; exact absurd hk (Nat.not_lt_zero _)
        | succ k ih =>
          intro y hk hy k1 k2
          by_cases e : y = x
          · rw [e]; exact .refl
          · by_cases c : y ∈ P
            · by_cases e2 : pk y = 0
              ·
                exfalso
                have hyi : y = i := by
                  have := Q.dn y c
                  cases this with
                  | refl => rfl
                  | up h0 k5 =>
                    have hpi := (parm i hiP).resolve_left h0
                    have go2 : ∀ z, z ∈ P → Anc par y z → y = z ∨ pk y ≠ 0 := fun z hz k6 => by
                      induction k6 with
                      | refl => exact .inl rfl
                      | @up v h0 k7 ih2 =>
                        have hpv := (parm v hz).resolve_left h0
                        rcases ih2 hpv with e3 | e3
                        · right; rw [e3, pkpar v hz hpv]; exact pnz v hz
                        · exact .inr e3
                    rcases go2 i hiP (.up h0 k5) with e3 | e3
                    · exact e3
                    · exact absurd e2 e3
                have hpx : pk x ≠ 0 := fun e3 => by
                  have := Q.dn x hx
                  have go2 : ∀ z, z ∈ P → Anc par x z → x = z ∨ pk x ≠ 0 := fun z hz k6 => by
                    induction k6 with
                    | refl => exact .inl rfl
                    | @up v h0 k7 ih2 =>
                      have hpv := (parm v hz).resolve_left h0
                      rcases ih2 hpv with e3 | e3
                      · right; rw [e3, pkpar v hz hpv]; exact pnz v hz
                      · exact .inr e3
                  rcases go2 i hiP this with e4 | e4
                  · exact e (hyi.trans e4.symm)
                  · exact e4 e3
                exact k2 (by rw [hyi]; exact Q.dn _ ((pkm x hx).resolve_left hpx).1)
              · obtain ⟨e3, e4⟩ := (pkm y c).resolve_left e2
                have hy' : par' y = pk y := a1 y c
                refine .up (by rw [hy']; exact e2) ?_
                rw [hy']
                have hd := (rk' y hy).resolve_left (by rw [hy']; exact e2)
                rw [hy'] at hd
                refine ih (pk y) (by omega) (Q.vv _ e3) (Q.up _ e3) fun k3 => ?_
                generalize hz : pk y = z at *
                cases k3 with
                | refl =>
                  have h5 := (pkm x hx).resolve_left e2
                  exact e (e4.symm.trans h5.2)
                | up h0 k4 =>
                  rw [e4] at k4; exact k2 k4
            · have hy' : par' y = par y := a2 y c
              cases k1 with
              | refl => exact absurd hrP c
              | up h0 k3 =>
                refine .up (by rw [hy']; exact h0) ?_
                rw [hy']
                have hd := (rk' y hy).resolve_left (by rw [hy']; exact h0)
                rw [hy'] at hd
                exact ih (par y) (by omega) hd.1 k3 fun k4 => k2 (.up h0 k4)
      exact fun ⟨k1, k2⟩ => go (d' y + 1) y (by omega) hy k1 k2
  have subOut : ∀ x, x ∉ P → (x = 0 ∨ VV n x) → sub n par' x = sub n par x := fun x hx hxv => by
    rcases hxv with e | e
    · rw [e, sub_zero, sub_zero]
    · exact sub_congr fun y hy => ancOut x hx e y hy
  have subIn : ∀ x, x ∈ P → sub n par' x + sub n par (pk x) = sub n par r := fun x hx => by
    have e := cntP_sub (P := fun y => VV n y ∧ Anc par (pk x) y) (Q := fun y => VV n y ∧ Anc par r y) (n + 1) fun y _ k => by
      refine ⟨k.1, ?_⟩
      rcases pkm x hx with e | e
      · have := k.2; rw [e] at this; have := this.zero; have := k.1.1; omega
      · exact (Q.up _ e.1).trans k.2
    have e2 : sub n par' x = cntP (fun y => (VV n y ∧ Anc par r y) ∧ ¬ (VV n y ∧ Anc par (pk x) y)) (n + 1) := cntP_congr _ fun y _ => by
      constructor
      · rintro ⟨h1, h2⟩
        obtain ⟨h3, h4⟩ := (ancIn x hx y h1).1 h2
        exact ⟨⟨h1, h3⟩, fun k => h4 k.2⟩
      · rintro ⟨⟨h1, h2⟩, h3⟩
        exact ⟨h1, (ancIn x hx y h1).2 ⟨h2, fun k => h3 ⟨h1, k⟩⟩⟩
    rw [e2]; exact e
  have ne : ∀ x, x ≠ i → updN N i { N i with fl := true } x = N x := fun x hx => uN_ne _ _ hx
  have all : ∀ x, (updN N i { N i with fl := true } x).k0 = (N x).k0 ∧ (updN N i { N i with fl := true } x).k1 = (N x).k1 ∧ (updN N i { N i with fl := true } x).up = (N x).up ∧ (updN N i { N i with fl := true } x).key = (N x).key ∧ (updN N i { N i with fl := true } x).lt = (N x).lt ∧ (updN N i { N i with fl := true } x).sz = (N x).sz ∧ (updN N i { N i with fl := true } x).tot = (N x).tot ∧ (updN N i { N i with fl := true } x).fst = (N x).fst := fun x => by
    by_cases e : x = i
    · subst e; rw [uN_same]; exact ⟨rfl, rfl, rfl, rfl, rfl, rfl, rfl, rfl⟩
    · rw [ne x e]; exact ⟨rfl, rfl, rfl, rfl, rfl, rfl, rfl, rfl⟩
  refine ⟨par', pk', d', ⟨by rw [ne 0 (fun e => i0 e.symm)]; exact h.z, h.mem, h.own, h.nod, ?_, ?_, rk', ?_, ?_, h.nb⟩, by rw [a1 i hiP]; exact hp, ?_⟩
  · intro v hv
    by_cases c : v ∈ P
    · have hT : T v = T i := (h.own i v hi ((Q.mem v).1 c)).2
      obtain ⟨w, h1, _⟩ := h.ex i hi
      have hw : w = 0 := by rw [ht] at h1; rw [← hu]; exact h1.2.1.symm
      rw [hw] at h1
      rw [hT]
      refine ⟨0, rep_congr h1 fun x _ => ⟨(all x).1, (all x).2.1, (all x).2.2.1⟩, ?_⟩
      have e : sq (updN N i { N i with fl := true }) (T i) = (sq N (T i)).reverse := by
        rw [ht]
        refine sq_flip i0 ?_ (fun x hx hxr => by rw [ne x hxr]) (by rw [← ht]; exact h.nod i hi)
        show (updN N i { N i with fl := true } i).fl = !(N i).fl
        rw [uN_same, hf]; rfl
      rw [e, Q.eq]
      exact Q.sg.rev.congr fun x hx => ⟨a1 x (List.mem_reverse.1 hx), b1 x (List.mem_reverse.1 hx)⟩
    · obtain ⟨w, h1, h2⟩ := h.ex v hv
      refine ⟨w, rep_congr h1 fun x _ => ⟨(all x).1, (all x).2.1, (all x).2.2.1⟩, ?_⟩
      rw [sq_congr (N := N) fun x hx => by rw [ne x fun e => out v hv c x hx (e ▸ hiP)]]
      refine h2.congr fun x hx => ?_
      have := out v hv c x ((sq_perm (N := N)).mem_iff.1 hx)
      exact ⟨a2 x this, b2 x this⟩
  · intro v hv
    exact agg_congr (h.agg v hv) fun x _ => ⟨(all x).2.2.2.2.2.1, (all x).2.2.2.2.2.2.1, (all x).2.2.2.2.2.2.2, (all x).2.2.2.1, (all x).2.2.2.2.1⟩
  · intro v hv
    rw [(all v).2.2.2.2.1]
    have hlt := h.lt v hv
    by_cases c : v ∈ P
    · rw [b1 v c]
      have e1 := subIn v c
      rcases parm v c with e | e
      · rw [e, sub_zero]
        have hvr : v = r := ((Q.up v c).of_root e).symm
        rw [← hvr] at e1
        omega
      · have e2 := subIn (par v) e
        rw [pkpar v c e] at e2
        omega
    · rw [b2 v c, subOut v c (.inr hv), subOut (pk v)]
      · exact hlt
      · obtain ⟨w, h1, h2⟩ := h.ex v hv
        have hvm : v ∈ sq N (T v) := (sq_perm (N := N)).mem_iff.2 (h.mem v hv)
        rcases h2.pk_mem v hvm with e | e
        · rw [e]; exact z0
        · exact out v hv c _ ((sq_perm (N := N)).mem_iff.1 e.1)
      · obtain ⟨w, h1, h2⟩ := h.ex v hv
        have hvm : v ∈ sq N (T v) := (sq_perm (N := N)).mem_iff.2 (h.mem v hv)
        rcases h2.pk_mem v hvm with e | e
        · exact .inl e
        · exact .inr (h.own v _ hv ((sq_perm (N := N)).mem_iff.1 e.1)).1
  · intro v hv; rw [(all v).2.2.2.2.1]; exact h.l0 v hv
  · intro x y hx hy
    have half : ∀ x y, VV n x → VV n y → par' x = y → par x = y ∨ par y = x := fun x y hx hy e => by
      by_cases c : x ∈ P
      · rw [a1 x c] at e
        rcases pkm x c with e2 | e2
        · rw [e2] at e; have := hy.1; omega
        · rw [e] at e2; exact .inr e2.2
      · rw [a2 x c] at e; exact .inl e
    have half2 : ∀ x y, VV n x → VV n y → par x = y → par' x = y ∨ par' y = x := fun x y hx hy e => by
      by_cases c : x ∈ P
      · rcases parm x c with e2 | e2
        · rw [e] at e2; have := hy.1; omega
        · right
          have := pkpar x c e2
          rw [e] at this e2
          rw [a1 y e2]; exact this
      · left; rw [a2 x c]; exact e
    constructor
    · rintro (e | e)
      · exact half x y hx hy e
      · exact (half y x hy hx e).symm
    · rintro (e | e)
      · exact half2 x y hx hy e
      · exact (half2 y x hy hx e).symm
end
end Go.Proofs.YtlooaipipmiijaaGreat
