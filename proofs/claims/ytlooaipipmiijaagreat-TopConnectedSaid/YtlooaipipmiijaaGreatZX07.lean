/- Several texts in one: LcH. -/
import Derived.Test.YtlooaipipmiijaaGreatZX06
namespace Go.Proofs.YtlooaipipmiijaaGreat
set_option linter.unusedVariables false
set_option linter.unusedSimpArgs false
def lnkN (N : NS) (a b : Nat) : NS := refN (updN (updN N a { N a with up := b }) b { N b with lt := w64 ((N b).lt + (N a).tot) }) b
def cutN (N : NS) (a b : Nat) : NS := refN (updN (updN N a { N a with up := 0 }) b { N b with k0 := 0 }) b
def keyN (N : NS) (v : Nat) (k : Int) : NS := refN (updN N v { N v with key := k }) v
section
variable {n : Nat} {N : NS} {T : Nat → Sp} {par pk d : Nat → Nat}
theorem LI.pkv (h : LI n N T par pk d) {v : Nat} (hv : VV n v) : pk v = 0 ∨ VV n (pk v) ∧ par (pk v) = v := by
  obtain ⟨w, h1, h2⟩ := h.ex v hv
  rcases h2.pk_mem v ((sq_perm (N := N)).mem_iff.2 (h.mem v hv)) with e | e
  · exact .inl e
  · exact .inr ⟨(h.own v _ hv ((sq_perm (N := N)).mem_iff.1 e.1)).1, e.2⟩
theorem PthE.pknz {i r : Nat} {P : List Nat} (Q : PthE n N T par pk d i r P) {v : Nat} (hv : v ∈ P) (hne : v ≠ i) : pk v ≠ 0 ∧ pk v ∈ P ∧ par (pk v) = v := by
  have z0 : (0 : Nat) ∉ P := fun hm => by have := (Q.vv 0 hm).1; omega
  have go2 : ∀ z, Anc par v z → z ∈ P → v = z ∨ pk v ≠ 0 := fun z k6 => by
    induction k6 with
    | refl => exact fun _ => .inl rfl
    | @up w h0 k7 ih2 =>
      intro hz
      have hpv := (Q.sg.par_mem w hz).resolve_left h0
      rcases ih2 hpv with e3 | e3
      · right
        rw [e3, Q.sg.pk_par z0 Q.nod w hz hpv]
        have := (Q.vv w hz).1; omega
      · exact .inr e3
  have h1 := (go2 i (Q.dn v hv) (Q.cl i .refl)).resolve_left hne
  exact ⟨h1, (Q.sg.pk_mem v hv).resolve_left h1⟩
theorem agg_top {N M : NS} {A : Sp} {b : Nat} (hr : Rep N A b) (ha : Agg N A) (hb : b ∉ A.els) (hM : ∀ x, x ∈ A.els → M x = { N x with up := (M x).up }) (e0 : (M b).k0 = A.root) (e1 : (M b).k1 = 0) (h0 : 0 ≤ (M b).lt) (hA : ∀ x, x ∈ A.els → 0 ≤ (N x).lt) (hs : 1 + (M b).lt + sumW N A.els ≤ 4611686018427387904) (hu : ∀ x, x ∈ A.els → (M x).up = (N x).up) :
    Agg (refN M b) (.node A b .nil) := by
  have hMx : ∀ x, x ∈ A.els → M x = N x := fun x hx => by rw [hM x hx, hu x hx]
  have rM : Rep M A b := rep_congr hr fun x hx => by rw [hMx x hx]; exact ⟨rfl, rfl, rfl⟩
  have aM : Agg M A := agg_congr ha fun x hx => by rw [hMx x hx]; exact ⟨rfl, rfl, rfl, rfl, rfl⟩
  have ok := frsh_ok (N := M) (i := b) (l := A) (r := .nil) (u := b) (v := b) rM trivial aM trivial e0 e1 (fun x hx => by
      rcases List.mem_cons.1 hx with hx | hx
      · rw [hx]; exact h0
      · rcases List.mem_append.1 hx with hx | hx
        · rw [hMx x hx]; exact hA x hx
        · exact absurd hx List.not_mem_nil) (by
      show sumW M (b :: (A.els ++ [])) ≤ _
      rw [List.append_nil, sumW_cons, sumW_congr (N := N) (L := A.els) fun x hx => by rw [hMx x hx]]
      exact hs) hb List.not_mem_nil
  exact ⟨ok.perm List.perm_middle.symm, agg_congr aM fun x hx => by
    have hxb : x ≠ b := fun e => hb (e ▸ hx)
    rw [ref_ne _ hxb]; exact ⟨rfl, rfl, rfl, rfl, rfl⟩, trivial⟩
open Classical in
theorem LI.link (h : LI n N T par pk d) {a b : Nat} {B : Sp} (ha : VV n a) (hb : VV n b) (hta : (T a).root = a) (pa : par a = 0) (htb : T b = .node B b .nil) (fb : (N b).fl = false) (ub : (N b).up = 0) (pkb : pk b = 0) (hnc : ¬ Conn par a b) :
    ∃ par' d', LI n (lnkN N a b) T par' pk d' ∧ (∀ x y, VV n x → VV n y → ((par' x = y ∨ par' y = x) ↔ (par x = y ∨ par y = x) ∨ (x = a ∧ y = b) ∨ (x = b ∧ y = a))) ∧ (N b).k0 ≠ b ∧ (N b).k1 ≠ b := by
  obtain ⟨r, P, Q⟩ := h.pthE hb htb ub pkb
  have a0 : a ≠ 0 := by have := ha.1; omega
  have b0 : b ≠ 0 := by have := hb.1; omega
  have hab : a ≠ b := fun e => hnc (by rw [e]; obtain ⟨r, _, k1, k2⟩ := h.rk.top (d b + 1) b (by omega) hb; exact ⟨r, k1, k2, k2⟩)
  have nab : ¬ Anc par a b := fun k => hnc (h.rk.conn k hb)
  obtain ⟨u, x0, L, r1, r2, r3, r4, r5, r6, r7, r8⟩ := h.pth ha
  have hx0 : x0 = a := (r7 a (h.mem a ha)).1.of_root pa
  subst hx0
  have hu0 : u = 0 := by rw [← r5]; exact pa
  rw [hu0] at r1 r3
  have hbTa : b ∉ (T x0).els := fun hm => hnc (h.conn_tree ha (h.mem x0 ha) hm)
  have haTb : x0 ∉ (T b).els := fun hm => hnc (h.conn_tree hb hm (h.mem b hb))
  have tota : (N x0).tot = sub n par x0 := by
    have := (h.tots r1 (h.agg x0 ha) (by rw [r2]; exact r3) fun y hy => (h.own x0 y ha hy).1).1
    rw [hta, r2] at this; exact this
  let par' : Nat → Nat := fun x => if x = x0 then b else par x
  let d' : Nat → Nat := fun x => if Anc par x0 x then d x + d b + 1 else d x
  have p1 : par' x0 = b := if_pos rfl
  have p2 : ∀ x, x ≠ x0 → par' x = par x := fun x hx => if_neg hx
  have c1 : ∀ x, Anc par x0 x → d' x = d x + d b + 1 := fun x hx => if_pos hx
  have c2 : ∀ x, ¬ Anc par x0 x → d' x = d x := fun x hx => if_neg hx
  have rk' : Rk n par' d' := fun x hx => by
    by_cases e : x = x0
    · rw [e, p1, c1 x0 .refl, c2 b nab]
      exact .inr ⟨hb, by omega⟩
    · rw [p2 x e]
      rcases h.rk x hx with e1 | ⟨e1, e2⟩
      · exact .inl e1
      · refine .inr ⟨e1, ?_⟩
        by_cases k : Anc par x0 x
        · have k2 : Anc par x0 (par x) := by
            cases k with
            | refl => exact absurd rfl e
            | up _ k => exact k
          rw [c1 _ k, c1 _ k2]; omega
        · have k2 : ¬ Anc par x0 (par x) := fun k3 => k (.up (by have := e1.1; omega) k3)
          rw [c2 _ k, c2 _ k2]; exact e2
  have anc1 : ∀ x y, Anc par x y → Anc par' x y := fun x y k => by
    induction k with
    | refl => exact .refl
    | @up v h0 _ ih =>
      have hv : v ≠ x0 := fun e => h0 (by rw [e]; exact pa)
      exact .up (by rw [p2 v hv]; exact h0) (by rw [p2 v hv]; exact ih)
  have anc' : ∀ x y, Anc par' x y ↔ Anc par x y ∨ (Anc par x b ∧ Anc par x0 y) := fun x y => by
    constructor
    · intro k
      induction k with
      | refl => exact .inl .refl
      | @up v h0 _ ih =>
        by_cases e : v = x0
        · subst e
          rw [p1] at ih
          rcases ih with k | ⟨k, _⟩
          · exact .inr ⟨k, .refl⟩
          · exact .inr ⟨k, .refl⟩
        · rw [p2 v e] at ih h0
          rcases ih with k | ⟨k, k2⟩
          · exact .inl (.up h0 k)
          · exact .inr ⟨k, .up h0 k2⟩
    · rintro (k | ⟨k, k2⟩)
      · exact anc1 x y k
      · exact ((Anc.up (by rw [p1]; exact b0) (by rw [p1]; exact anc1 x b k) : Anc par' x x0)).trans (anc1 x0 y k2)
  have sub1 : ∀ x, VV n x → Anc par x b → sub n par' x = sub n par x + sub n par x0 := fun x hx k => by
    have e := cntP_sub (P := fun y => VV n y ∧ Anc par x0 y) (Q := fun y => VV n y ∧ Anc par' x y) (n + 1) fun y _ k2 => ⟨k2.1, (anc' x y).2 (.inr ⟨k, k2.2⟩)⟩
    have e2 : sub n par x = cntP (fun y => (VV n y ∧ Anc par' x y) ∧ ¬ (VV n y ∧ Anc par x0 y)) (n + 1) := cntP_congr _ fun y _ => by
      constructor
      · rintro ⟨h1, h2⟩
        refine ⟨⟨h1, anc1 x y h2⟩, fun k3 => hnc ?_⟩
        exact (h.rk.conn k3.2 h1).trans ((h.rk.conn h2 h1).symm.trans (h.rk.conn k hb))
      · rintro ⟨⟨h1, h2⟩, h3⟩
        rcases (anc' x y).1 h2 with k4 | k4
        · exact ⟨h1, k4⟩
        · exact absurd ⟨h1, k4.2⟩ h3
    rw [e2]; exact e.symm
  have sub2 : ∀ x, ¬ Anc par x b → sub n par' x = sub n par x := fun x k => sub_congr fun y _ => by
    rw [anc']
    exact ⟨fun h => h.elim id fun k2 => absurd k2.1 k, .inl⟩
  have hkB : (N b).k0 = B.root ∧ (N b).k1 = 0 ∧ Rep N B b ∧ b ∉ B.els ∧ Agg N B := by
    obtain ⟨w, q1, _⟩ := h.ex b hb
    have q2 := h.nod b hb
    have q3 := h.agg b hb
    rw [htb] at q1 q2 q3
    obtain ⟨_, _, k0, k1, k2, _⟩ := q1
    obtain ⟨_, _, k3⟩ := List.nodup_append.1 q2
    exact ⟨k0, k1, k2, fun hm => k3 b hm b (.head _) rfl, q3.2.1⟩
  obtain ⟨kb0, kb1, hrB, bB, agB⟩ := hkB
  have bs1 := sub_le n par x0
  have bs2 := sub_le n par b
  have hnb := h.nb
  have hlb := h.lt b hb
  rw [pkb, sub_zero] at hlb
  have hl0 := h.l0 b hb
  have ltb : w64 ((N b).lt + (N x0).tot) = (N b).lt + sub n par x0 := by rw [tota]; exact w64_in (by omega)
  have na : ∀ x, x ≠ x0 → x ≠ b → lnkN N x0 b x = N x := fun x h1 h2 => by unfold lnkN; rw [ref_ne _ h2, uN_ne _ _ h2, uN_ne _ _ h1]
  have nA : lnkN N x0 b x0 = { N x0 with up := b } := by unfold lnkN; rw [ref_ne _ hab, uN_ne _ _ hab, uN_same]
  have nB : (lnkN N x0 b b).k0 = (N b).k0 ∧ (lnkN N x0 b b).k1 = (N b).k1 ∧ (lnkN N x0 b b).up = (N b).up ∧ (lnkN N x0 b b).fl = (N b).fl ∧ (lnkN N x0 b b).key = (N b).key ∧ (lnkN N x0 b b).lt = (N b).lt + sub n par x0 := by
    obtain ⟨h1, h2, h3, h4, h5, h6⟩ := ref_rest (updN (updN N x0 { N x0 with up := b }) b { N b with lt := w64 ((N b).lt + (N x0).tot) }) b b
    unfold lnkN
    rw [h1, h2, h3, h4, h5, h6, uN_same]
    exact ⟨rfl, rfl, rfl, rfl, rfl, ltb⟩
  have ptr : ∀ x, (lnkN N x0 b x).k0 = (N x).k0 ∧ (lnkN N x0 b x).k1 = (N x).k1 ∧ (lnkN N x0 b x).fl = (N x).fl ∧ (lnkN N x0 b x).key = (N x).key ∧ (x ≠ x0 → (lnkN N x0 b x).up = (N x).up) := fun x => by
    by_cases e : x = b
    · subst e; exact ⟨nB.1, nB.2.1, nB.2.2.2.1, nB.2.2.2.2.1, fun _ => nB.2.2.1⟩
    · by_cases e2 : x = x0
      · subst e2; rw [nA]; exact ⟨rfl, rfl, rfl, rfl, fun k => absurd rfl k⟩
      · rw [na x e2 e]; exact ⟨rfl, rfl, rfl, rfl, fun _ => rfl⟩
  refine ⟨par', d', ⟨by rw [na 0 (fun e => a0 e.symm) (fun e => b0 e.symm)]; exact h.z, h.mem, h.own, h.nod, ?_, ?_, rk', ?_, ?_, h.nb⟩, ?_, ?_, ?_⟩
  · intro v hv
    by_cases c : x0 ∈ (T v).els
    · have hT : T v = T x0 := ((h.own v x0 hv c).2).symm
      rw [hT]
      refine ⟨b, rep_up r1 (h.nod x0 ha) (fun x _ => ⟨(ptr x).1, (ptr x).2.1⟩) (fun x hx hxr => (ptr x).2.2.2.2 (by rw [← hta]; exact hxr)) (fun _ => by rw [hta, nA]), ?_⟩
      rw [sq_congr (N := N) fun x _ => (ptr x).2.2.1, r2]
      have hn : (x0 :: L).Nodup := by rw [← r2]; exact (sq_perm (N := N)).nodup_iff.2 (h.nod x0 ha)
      exact ⟨p1, r3.2.1, r3.2.2.congr fun x hx => ⟨p2 x fun e => (List.nodup_cons.1 hn).1 (e ▸ hx), rfl⟩⟩
    · obtain ⟨w, h1, h2⟩ := h.ex v hv
      have hx : ∀ x, x ∈ (T v).els → x ≠ x0 := fun x hx e => c (e ▸ hx)
      refine ⟨w, rep_congr h1 fun x hx' => ⟨(ptr x).1, (ptr x).2.1, (ptr x).2.2.2.2 (hx x hx')⟩, ?_⟩
      rw [sq_congr (N := N) fun x _ => (ptr x).2.2.1]
      exact h2.congr fun x hx' => ⟨p2 x (hx x ((sq_perm (N := N)).mem_iff.1 hx')), rfl⟩
  · intro v hv
    by_cases c : b ∈ (T v).els
    · have hT : T v = T b := ((h.own v b hv c).2).symm
      rw [hT, htb]
      have hB : ∀ x, x ∈ B.els → x ≠ x0 ∧ x ≠ b := fun x hx => ⟨fun e => haTb (by rw [htb, ← e]; exact List.mem_append.2 (.inl hx)), fun e => bB (e ▸ hx)⟩
      have hl0B : ∀ x, x ∈ B.els → 0 ≤ (N x).lt := fun x hx => h.l0 x (h.own b x hb (by rw [htb]; exact List.mem_append.2 (.inl hx))).1
      have hM : ∀ x, x ∈ B.els → updN (updN N x0 { N x0 with up := b }) b { N b with lt := w64 ((N b).lt + (N x0).tot) } x = N x := fun x hx => by rw [uN_ne _ _ (hB x hx).2, uN_ne _ _ (hB x hx).1]
      refine agg_top hrB agB bB (fun x hx => by rw [hM x hx]) (by rw [uN_same]; exact kb0) (by rw [uN_same]; exact kb1) (by rw [uN_same]; show 0 ≤ w64 _; rw [ltb]; omega) hl0B ?_ (fun x hx => by rw [hM x hx])
      rw [uN_same]
      show 1 + w64 _ + _ ≤ _
      rw [ltb]
      obtain ⟨w, q1, q2⟩ := h.ex b hb
      have hsum := (h.tots q1 (h.agg b hb) q2 fun y hy => (h.own b y hb hy).1).2
      have b3 := sub_le n par ((sq N (T b)).headD 0)
      rw [htb] at hsum b3
      have : sumW N (B.els ++ b :: []) = sumW N B.els + ((1 + (N b).lt) + 0) := sumW_append _ _ _
      rw [show (Sp.node B b .nil).els = B.els ++ b :: [] from rfl, this] at hsum
      omega
    · refine agg_congr (h.agg v hv) fun x hx => ?_
      have hxb : x ≠ b := fun e => c (e ▸ hx)
      by_cases e2 : x = x0
      · subst e2; rw [nA]; exact ⟨rfl, rfl, rfl, rfl, rfl⟩
      · rw [na x e2 hxb]; exact ⟨rfl, rfl, rfl, rfl, rfl⟩
  · intro v hv
    have hlt := h.lt v hv
    by_cases e : v = b
    · rw [e, nB.2.2.2.2.2, pkb, sub_zero, sub1 b hb .refl]; omega
    · have hltv : (lnkN N x0 b v).lt = (N v).lt := by
        by_cases e2 : v = x0
        · subst e2; rw [nA]
        · rw [na v e2 e]
      rw [hltv]
      by_cases k : Anc par v b
      · obtain ⟨g1, g2, g3⟩ := Q.pknz (Q.cl v k) e
        rw [sub1 v hv k, sub1 (pk v) (Q.vv _ g2) (Q.dn _ g2)]; omega
      · rw [sub2 v k]
        rcases h.pkv hv with e3 | ⟨e3, e4⟩
        · rw [e3, sub_zero]; rw [e3, sub_zero] at hlt; exact hlt
        · rw [sub2 (pk v) fun k2 => k (Anc.trans (.up (by rw [e4]; have := hv.1; omega) (by rw [e4]; exact .refl)) k2)]; exact hlt
  · intro v hv
    by_cases e : v = b
    · rw [e, nB.2.2.2.2.2]; omega
    · by_cases e2 : v = x0
      · subst e2; rw [nA]; exact h.l0 v hv
      · rw [na v e2 e]; exact h.l0 v hv
  · intro x y hx hy
    have half : ∀ x y, VV n y → (par' x = y ↔ par x = y ∨ (x = x0 ∧ y = b)) := fun x y hy => by
      by_cases e : x = x0
      · subst e; rw [p1, pa]
        constructor
        · intro e; exact .inr ⟨rfl, e.symm⟩
        · rintro (e | e)
          · have := hy.1; omega
          · exact e.2.symm
      · rw [p2 x e]
        exact ⟨.inl, fun k => k.elim id fun k => absurd k.1 e⟩
    rw [half x y hy, half y x hx]
    constructor
    · rintro ((h | h) | (h | h))
      · exact .inl (.inl h)
      · exact .inr (.inl h)
      · exact .inl (.inr h)
      · exact .inr (.inr ⟨h.2, h.1⟩)
    · rintro ((h | h) | (h | h))
      · exact .inl (.inl h)
      · exact .inr (.inl h)
      · exact .inl (.inr h)
      · exact .inr (.inr ⟨h.2, h.1⟩)
  · rw [kb0]; exact fun e => bB (by rw [← e]; exact root_mem (by rw [e]; exact b0))
  · rw [kb1]; exact fun e => b0 e.symm
theorem LI.setKey (h : LI n N T par pk d) {v : Nat} {A : Sp} (hv : VV n v) (ht : T v = .node A v .nil) (k : Int) : LI n (keyN N v k) T par pk d ∧ (∀ x, x ≠ v → (keyN N v k x).key = (N x).key) ∧ (keyN N v k v).key = k ∧ (N v).k0 ≠ v ∧ (N v).k1 ≠ v := by
  have v0 : v ≠ 0 := by have := hv.1; omega
  have ne : ∀ x, x ≠ v → keyN N v k x = N x := fun x hx => by unfold keyN; rw [ref_ne _ hx, uN_ne _ _ hx]
  have at_ : (keyN N v k v).k0 = (N v).k0 ∧ (keyN N v k v).k1 = (N v).k1 ∧ (keyN N v k v).up = (N v).up ∧ (keyN N v k v).fl = (N v).fl ∧ (keyN N v k v).key = k ∧ (keyN N v k v).lt = (N v).lt := by
    obtain ⟨h1, h2, h3, h4, h5, h6⟩ := ref_rest (updN N v { N v with key := k }) v v
    unfold keyN
    rw [h1, h2, h3, h4, h5, h6, uN_same]
    exact ⟨rfl, rfl, rfl, rfl, rfl, rfl⟩
  have ptr : ∀ x, (keyN N v k x).k0 = (N x).k0 ∧ (keyN N v k x).k1 = (N x).k1 ∧ (keyN N v k x).up = (N x).up ∧ (keyN N v k x).fl = (N x).fl ∧ (keyN N v k x).lt = (N x).lt := fun x => by
    by_cases e : x = v
    · subst e; exact ⟨at_.1, at_.2.1, at_.2.2.1, at_.2.2.2.1, at_.2.2.2.2.2⟩
    · rw [ne x e]; exact ⟨rfl, rfl, rfl, rfl, rfl⟩
  have hkA : (N v).k0 = A.root ∧ (N v).k1 = 0 ∧ Rep N A v ∧ v ∉ A.els ∧ Agg N A := by
    obtain ⟨w, q1, _⟩ := h.ex v hv
    have q2 := h.nod v hv
    have q3 := h.agg v hv
    rw [ht] at q1 q2 q3
    obtain ⟨_, _, k0, k1, k2, _⟩ := q1
    obtain ⟨_, _, k3⟩ := List.nodup_append.1 q2
    exact ⟨k0, k1, k2, fun hm => k3 v hm v (.head _) rfl, q3.2.1⟩
  obtain ⟨k0, k1, hrA, vA, agA⟩ := hkA
  refine ⟨⟨by rw [ne 0 fun e => v0 e.symm]; exact h.z, h.mem, h.own, h.nod, ?_, ?_, h.rk, ?_, ?_, h.nb⟩, fun x hx => by rw [ne x hx], at_.2.2.2.2.1, ?_, ?_⟩
  · intro x hx
    obtain ⟨w, h1, h2⟩ := h.ex x hx
    exact ⟨w, rep_congr h1 fun y _ => ⟨(ptr y).1, (ptr y).2.1, (ptr y).2.2.1⟩, by rw [sq_congr (N := N) fun y _ => (ptr y).2.2.2.1]; exact h2⟩
  · intro x hx
    by_cases c : v ∈ (T x).els
    · rw [← (h.own x v hx c).2, ht]
      have hl0A : ∀ y, y ∈ A.els → 0 ≤ (N y).lt := fun y hy => h.l0 y (h.own v y hv (by rw [ht]; exact List.mem_append.2 (.inl hy))).1
      have hM : ∀ y, y ∈ A.els → updN N v { N v with key := k } y = N y := fun y hy => uN_ne _ _ fun e => vA (e ▸ hy)
      refine agg_top hrA agA vA (fun y hy => by rw [hM y hy]) (by rw [uN_same]; exact k0) (by rw [uN_same]; exact k1) (by rw [uN_same]; exact h.l0 v hv) hl0A ?_ (fun y hy => by rw [hM y hy])
      rw [uN_same]
      show 1 + (N v).lt + _ ≤ _
      obtain ⟨w, q1, q2⟩ := h.ex v hv
      have hsum := (h.tots q1 (h.agg v hv) q2 fun y hy => (h.own v y hv hy).1).2
      have b3 := sub_le n par ((sq N (T v)).headD 0)
      have hnb := h.nb
      rw [ht] at hsum b3
      have : sumW N (A.els ++ v :: []) = sumW N A.els + ((1 + (N v).lt) + 0) := sumW_append _ _ _
      rw [show (Sp.node A v .nil).els = A.els ++ v :: [] from rfl, this] at hsum
      omega
    · exact agg_congr (h.agg x hx) fun y hy => by rw [ne y fun e => c (e ▸ hy)]; exact ⟨rfl, rfl, rfl, rfl, rfl⟩
  · intro x hx; rw [(ptr x).2.2.2.2]; exact h.lt x hx
  · intro x hx; rw [(ptr x).2.2.2.2]; exact h.l0 x hx
  · rw [k0]; exact fun e => vA (by rw [← e]; exact root_mem (by rw [e]; exact v0))
  · rw [k1]; exact fun e => v0 e.symm
theorem LI.cut (h : LI n N T par pk d) {a b : Nat} {B : Sp} (ha : VV n a) (hb : VV n b) (pa : par a = 0) (hc : Conn par a b) (htb : T b = .node B b .nil) (fb : (N b).fl = false) (ub : (N b).up = 0) (pkb : pk b = 0) (hsz : (N b).sz = 2) :
    ∃ T' par' pk' , LI n (cutN N a b) T' par' pk' d ∧ par b = a ∧ (∀ x y, VV n x → VV n y → ((par' x = y ∨ par' y = x) ↔ (par x = y ∨ par y = x) ∧ ¬ (x = a ∧ y = b) ∧ ¬ (x = b ∧ y = a))) ∧ (N b).k1 ≠ b := by
  obtain ⟨r, P, Q⟩ := h.pthE hb htb ub pkb
  have a0 : a ≠ 0 := by have := ha.1; omega
  have b0 : b ≠ 0 := by have := hb.1; omega
  have hr : r = a := by
    obtain ⟨r', k1, k2, k3⟩ := hc
    have e1 := k2.of_root pa
    subst e1
    exact (Q.up b (Q.cl b .refl)).top_uniq k3 Q.pr k1
  subst hr
  have hlen : P.length = 2 := by
    have := (agg_root (h.agg b hb) (by rw [htb]; exact b0)).sz
    rw [show (T b).root = b by rw [htb]; rfl, hsz] at this
    have h2 : P.length = (T b).els.length := by rw [← Q.eq]; exact (sq_perm (N := N)).length_eq
    omega
  have hab : r ≠ b := by
    intro e
    have hbm : b ∈ P := Q.cl b .refl
    match P, hlen, Q with
    | [x, y], _, Q =>
      have e1 : x = r := Q.hd
      have hyx : par y = x := Q.sg.2.2.1
      have hyb : Anc par y b := Q.dn y (.tail _ (.head _))
      rw [← e] at hyb
      have := hyb.of_root pa
      have hn := Q.nod
      rw [this, e1] at hn
      exact (List.nodup_cons.1 hn).1 (.head _)
  have hP : P = [r, b] := by
    have hbm : b ∈ P := Q.cl b .refl
    match P, hlen, Q, hbm with
    | [x, y], _, Q, hbm =>
      have e1 : x = r := Q.hd
      rcases List.mem_cons.1 hbm with e | e
      · exact absurd (e1.symm.trans e.symm) hab
      · rw [e1, List.mem_singleton.1 e]
  subst hP
  have hpb : par b = r := Q.sg.2.2.1
  have hpa : pk r = b := Q.sg.2.1
  have hn := h.nod b hb
  have hBr : B = .node .nil r .nil := by
    have h1 : sq N (T b) = [r, b] := Q.eq
    rw [htb, sq_open fb] at h1
    have h1' : sq N B ++ [b] = [r] ++ [b] := h1
    have h2 : sq N B = [r] := (List.append_inj' h1' rfl).1
    have h3 : B.els.Perm [r] := by rw [← h2]; exact (sq_perm (N := N)).symm
    have h4 : B.els = [r] := List.perm_singleton.1 h3
    cases B with
    | nil => cases h4
    | node l i rr =>
      have h5 : l.els ++ i :: rr.els = [r] := h4
      have hl : l.els.length + (1 + rr.els.length) = 1 := by
        have := congrArg List.length h5
        rw [List.length_append, List.length_cons, List.length_singleton] at this
        omega
      have n1 : l = .nil := by
        cases l with
        | nil => rfl
        | node p q s =>
          have : (Sp.node p q s).els.length = p.els.length + (s.els.length + 1) := by show (p.els ++ q :: s.els).length = _; rw [List.length_append, List.length_cons]
          omega
      have n2 : rr = .nil := by
        cases rr with
        | nil => rfl
        | node p q s =>
          have : (Sp.node p q s).els.length = p.els.length + (s.els.length + 1) := by show (p.els ++ q :: s.els).length = _; rw [List.length_append, List.length_cons]
          omega
      subst n1 n2
      have : i = r := by
        have h6 : [i] = [r] := h5
        injection h6
      rw [this]
  subst hBr
  obtain ⟨w, q1, q2⟩ := h.ex b hb
  have q3 := h.agg b hb
  rw [htb] at q1 q3
  obtain ⟨_, hub, kb0, kb1, ⟨_, hua, ka0, ka1, _, _⟩, _⟩ := q1
  have hm : ∀ x, x ∈ (T b).els ↔ x = r ∨ x = b := fun x => by
    rw [← Q.mem]; simp
  let par' : Nat → Nat := fun x => if x = b then 0 else par x
  let pk' : Nat → Nat := fun x => if x = r then 0 else pk x
  let T' : Nat → Sp := fun x => if x = r then .node .nil r .nil else if x = b then .node .nil b .nil else T x
  have p1 : par' b = 0 := if_pos rfl
  have p2 : ∀ x, x ≠ b → par' x = par x := fun x hx => if_neg hx
  have g1 : pk' r = 0 := if_pos rfl
  have g2 : ∀ x, x ≠ r → pk' x = pk x := fun x hx => if_neg hx
  have t1 : T' r = .node .nil r .nil := if_pos rfl
  have t2 : T' b = .node .nil b .nil := (if_neg (fun e => hab e.symm)).trans (if_pos rfl)
  have t3 : ∀ x, x ≠ r → x ≠ b → T' x = T x := fun x h1 h2 => (if_neg h1).trans (if_neg h2)
  have rk' : Rk n par' d := fun x hx => by
    by_cases e : x = b
    · rw [e, p1]; exact .inl rfl
    · rw [p2 x e]; exact h.rk x hx
  have anc' : ∀ x y, VV n y → (Anc par' x y ↔ Anc par x y ∧ ¬ (Anc par x b ∧ x ≠ b ∧ Anc par b y)) := fun x y hy => by
    constructor
    · intro k
      induction k with
      | refl =>
        refine ⟨.refl, fun ⟨k1, k2, k3⟩ => ?_⟩
        have hx := (h.rk.anc k1 hb)
        have := (h.rk.anc k3 hx.1).2
        rcases hx.2 with e | e
        · exact k2 e
        · rcases this with e2 | e2
          · exact k2 e2.symm
          · omega
      | @up v h0 k ih =>
        have e : v ≠ b := fun e => h0 (by rw [e]; exact p1)
        rw [p2 v e] at h0 ih k
        have hv := (h.rk v hy).resolve_left h0
        obtain ⟨k1, k2⟩ := ih hv.1
        refine ⟨.up h0 k1, fun ⟨k3, k4, k5⟩ => k2 ⟨k3, k4, ?_⟩⟩
        cases k5 with
        | refl => exact absurd rfl e
        | up _ k6 => exact k6
    · rintro ⟨k, k2⟩
      induction k with
      | refl => exact .refl
      | @up v h0 k ih =>
        have hv := (h.rk v hy).resolve_left h0
        by_cases e : v = b
        · exfalso
          refine k2 ⟨by rw [← e]; exact .up h0 k, fun e2 => ?_, by rw [e]; exact .refl⟩
          rcases (h.rk.anc k hv.1).2 with e3 | e3
          · rw [← e3, e2, ← e] at hv; omega
          · rw [e2, ← e] at e3; omega
        · refine .up (by rw [p2 v e]; exact h0) ?_
          rw [p2 v e]
          exact ih hv.1 fun ⟨k3, k4, k5⟩ => k2 ⟨k3, k4, .up h0 k5⟩
  have ancb : ∀ x, Anc par x b → x = r ∨ x = b := fun x k => by
    have := Q.cl x k
    simpa using this
  have rb : Anc par r b := Q.up b (Q.cl b .refl)
  have subr : sub n par' r + sub n par b = sub n par r := by
    have e := cntP_sub (P := fun y => VV n y ∧ Anc par b y) (Q := fun y => VV n y ∧ Anc par r y) (n + 1) fun y _ k => ⟨k.1, rb.trans k.2⟩
    have e2 : sub n par' r = cntP (fun y => (VV n y ∧ Anc par r y) ∧ ¬ (VV n y ∧ Anc par b y)) (n + 1) := cntP_congr _ fun y _ => by
      constructor
      · rintro ⟨h1, h2⟩
        obtain ⟨h3, h4⟩ := (anc' r y h1).1 h2
        exact ⟨⟨h1, h3⟩, fun k => h4 ⟨rb, hab, k.2⟩⟩
      · rintro ⟨⟨h1, h2⟩, h3⟩
        exact ⟨h1, (anc' r y h1).2 ⟨h2, fun k => h3 ⟨h1, k.2.2⟩⟩⟩
    rw [e2]; exact e
  have subo : ∀ x, x ≠ r → sub n par' x = sub n par x := fun x hx => sub_congr fun y hy => by
    rw [anc' x y hy]
    refine ⟨And.left, fun k => ⟨k, fun ⟨k1, k2, _⟩ => ?_⟩⟩
    rcases ancb x k1 with e | e
    · exact hx e
    · exact k2 e
  have na : ∀ x, x ≠ r → x ≠ b → cutN N r b x = N x := fun x h1 h2 => by unfold cutN; rw [ref_ne _ h2, uN_ne _ _ h2, uN_ne _ _ h1]
  have nA : cutN N r b r = { N r with up := 0 } := by unfold cutN; rw [ref_ne _ hab, uN_ne _ _ hab, uN_same]
  have nB : (cutN N r b b).k0 = 0 ∧ (cutN N r b b).k1 = (N b).k1 ∧ (cutN N r b b).up = (N b).up ∧ (cutN N r b b).fl = (N b).fl ∧ (cutN N r b b).key = (N b).key ∧ (cutN N r b b).lt = (N b).lt := by
    obtain ⟨h1, h2, h3, h4, h5, h6⟩ := ref_rest (updN (updN N r { N r with up := 0 }) b { N b with k0 := 0 }) b b
    unfold cutN
    rw [h1, h2, h3, h4, h5, h6, uN_same]
    exact ⟨rfl, rfl, rfl, rfl, rfl, rfl⟩
  have lts : ∀ x, (cutN N r b x).lt = (N x).lt := fun x => by
    by_cases e : x = b
    · rw [e]; exact nB.2.2.2.2.2
    · by_cases e2 : x = r
      · rw [e2, nA]
      · rw [na x e2 e]
  have far : ∀ v, VV n v → v ≠ r → v ≠ b → ∀ x, x ∈ (T v).els → x ≠ r ∧ x ≠ b := fun v hv h1 h2 x hx => by
    have : x ∉ (T b).els := fun hm' => by
      have e := h.disj hv hb hx hm'
      have := h.mem v hv
      rw [e, hm] at this
      exact this.elim h1 h2
    rw [hm] at this
    exact ⟨fun e => this (.inl e), fun e => this (.inr e)⟩
  have single : ∀ {x y : Nat}, x ∈ (Sp.node .nil y .nil).els ↔ x = y := fun {x y} => by
    show x ∈ [] ++ [y] ↔ _
    simp
  have hlr := h.l0 r ha
  refine ⟨T', par', pk', ⟨?_, ?_, ?_, ?_, ?_, ?_, rk', ?_, ?_, h.nb⟩, hpb, ?_, ?_⟩
  · rw [na 0 (fun e => a0 e.symm) (fun e => b0 e.symm)]; exact h.z
  · intro v hv
    by_cases e : v = r
    · rw [e, t1, single]
    · by_cases e2 : v = b
      · rw [e2, t2, single]
      · rw [t3 v e e2]; exact h.mem v hv
  · intro v x hv hx
    by_cases e : v = r
    · rw [e, t1, single] at hx
      rw [hx, e]; exact ⟨ha, rfl⟩
    · by_cases e2 : v = b
      · rw [e2, t2, single] at hx
        rw [hx, e2]; exact ⟨hb, rfl⟩
      · rw [t3 v e e2] at hx ⊢
        have := far v hv e e2 x hx
        rw [t3 x this.1 this.2]
        exact h.own v x hv hx
  · intro v hv
    by_cases e : v = r
    · rw [e, t1]; exact List.nodup_cons.2 ⟨List.not_mem_nil, List.nodup_nil⟩
    · by_cases e2 : v = b
      · rw [e2, t2]; exact List.nodup_cons.2 ⟨List.not_mem_nil, List.nodup_nil⟩
      · rw [t3 v e e2]; exact h.nod v hv
  · intro v hv
    by_cases e : v = r
    · rw [e, t1]
      refine ⟨0, ⟨a0, by rw [nA], by rw [nA]; exact ka0, by rw [nA]; exact ka1, trivial, trivial⟩, ?_⟩
      have : sq (cutN N r b) (.node .nil r .nil) = [r] := by
        show (if _ then ([] ++ r :: []).reverse else [] ++ r :: []) = _
        split <;> rfl
      rw [this]
      exact ⟨(p2 r hab).trans pa, g1, trivial⟩
    · by_cases e2 : v = b
      · rw [e2, t2]
        refine ⟨0, ⟨b0, nB.2.2.1.trans ub, nB.1, nB.2.1.trans kb1, trivial, trivial⟩, ?_⟩
        have : sq (cutN N r b) (.node .nil b .nil) = [b] := by
          show (if _ then ([] ++ b :: []).reverse else [] ++ b :: []) = _
          split <;> rfl
        rw [this]
        exact ⟨p1, (g2 b fun e => hab e.symm).trans pkb, trivial⟩
      · rw [t3 v e e2]
        obtain ⟨w', h1, h2⟩ := h.ex v hv
        have hf := far v hv e e2
        refine ⟨w', rep_congr h1 fun x hx => by rw [na x (hf x hx).1 (hf x hx).2]; exact ⟨rfl, rfl, rfl⟩, ?_⟩
        rw [sq_congr (N := N) fun x hx => by rw [na x (hf x hx).1 (hf x hx).2]]
        exact h2.congr fun x hx => by
          have := hf x ((sq_perm (N := N)).mem_iff.1 hx)
          exact ⟨p2 x this.2, g2 x this.1⟩
  · intro v hv
    by_cases e : v = r
    · rw [e, t1]
      exact agg_congr q3.2.1 fun x hx => by rw [single.1 hx, nA]; exact ⟨rfl, rfl, rfl, rfl, rfl⟩
    · by_cases e2 : v = b
      · rw [e2, t2]
        have hlb := h.l0 b hb
        have hb2 := h.lt b hb
        rw [pkb, sub_zero] at hb2
        have hb3 := sub_le n par b
        have hb4 := h.nb
        exact agg_top (N := N) (M := updN (updN N r { N r with up := 0 }) b { N b with k0 := 0 }) (A := .nil) trivial trivial List.not_mem_nil (fun x hx => absurd hx List.not_mem_nil) (by rw [uN_same]; rfl) (by rw [uN_same]; exact kb1) (by rw [uN_same]; exact hlb) (fun x hx => absurd hx List.not_mem_nil) (by rw [uN_same]; show 1 + (N b).lt + 0 ≤ _; omega) (fun x hx => absurd hx List.not_mem_nil)
      · rw [t3 v e e2]
        have hf := far v hv e e2
        exact agg_congr (h.agg v hv) fun x hx => by rw [na x (hf x hx).1 (hf x hx).2]; exact ⟨rfl, rfl, rfl, rfl, rfl⟩
  · intro v hv
    rw [lts]
    have hlt := h.lt v hv
    by_cases e : v = r
    · rw [e, hpa] at hlt
      rw [e, g1, sub_zero]; omega
    · rw [subo v e, g2 v e]
      rcases h.pkv hv with e3 | ⟨e3, e4⟩
      · rw [e3, sub_zero]; rw [e3, sub_zero] at hlt; exact hlt
      · rw [subo (pk v) fun e5 => by rw [e5, pa] at e4; have := hv.1; omega]; exact hlt
  · intro v hv; rw [lts]; exact h.l0 v hv
  · intro x y hx hy
    have half : ∀ x y, VV n y → (par' x = y ↔ par x = y ∧ ¬ (x = b ∧ y = r)) := fun x y hy => by
      by_cases e : x = b
      · subst e; rw [p1, hpb]
        constructor
        · intro e; have := hy.1; omega
        · rintro ⟨e, e2⟩; exact absurd ⟨rfl, e.symm⟩ e2
      · rw [p2 x e]
        exact ⟨fun k => ⟨k, fun k2 => e k2.1⟩, And.left⟩
    rw [half x y hy, half y x hx]
    constructor
    · rintro (⟨h1, h2⟩ | ⟨h1, h2⟩)
      · exact ⟨.inl h1, fun k => by rw [k.1, k.2, pa] at h1; exact b0 h1.symm, h2⟩
      · exact ⟨.inr h1, fun k => h2 ⟨k.2, k.1⟩, fun k => by rw [k.1, k.2, pa] at h1; exact b0 h1.symm⟩
    · rintro ⟨h1 | h1, h2, h3⟩
      · exact .inl ⟨h1, h3⟩
      · exact .inr ⟨h1, fun k => h2 ⟨k.2, k.1⟩⟩
  · rw [kb1]; exact fun e => b0 e.symm
end
def ini (n : Nat) : NS := fun x => if 1 ≤ x ∧ x ≤ n then ⟨0, 0, 0, false, 0, 1, x, 0, 1⟩ else nd00
theorem LI.init {n : Nat} (hn : n ≤ 1000000) : LI n (ini n) (fun x => .node .nil x .nil) (fun _ => 0) (fun _ => 0) (fun _ => 0) := by
  have e : ∀ x, VV n x → ini n x = ⟨0, 0, 0, false, 0, 1, x, 0, 1⟩ := fun x hx => if_pos hx
  have single : ∀ {x y : Nat}, x ∈ (Sp.node .nil y .nil).els ↔ x = y := fun {x y} => by
    show x ∈ [] ++ [y] ↔ _
    simp
  have anc : ∀ x y, Anc (fun _ => 0) x y → x = y := fun x y k => k.of_root rfl
  have sub1 : ∀ v, VV n v → sub n (fun _ => 0) v = 1 := fun v hv => cntP_one _ (a := v) (by have := hv.2; omega) fun x hx => ⟨fun k => (anc v x k.2).symm, fun k => by rw [k]; exact ⟨hv, .refl⟩⟩
  refine ⟨if_neg (by omega), fun v _ => single.2 rfl, fun v x hv hx => by rw [single.1 hx]; exact ⟨hv, rfl⟩, fun v _ => List.nodup_cons.2 ⟨List.not_mem_nil, List.nodup_nil⟩, fun v hv => ?_, fun v hv => ?_, fun v _ => .inl rfl, fun v hv => ?_, fun v hv => by rw [e v hv]; exact Int.le_refl _, hn⟩
  · have v0 : v ≠ 0 := by have := hv.1; omega
    refine ⟨0, ⟨v0, by rw [e v hv], by rw [e v hv]; rfl, by rw [e v hv]; rfl, trivial, trivial⟩, ?_⟩
    have : sq (ini n) (.node .nil v .nil) = [v] := by
      show (if _ then ([] ++ v :: []).reverse else [] ++ v :: []) = _
      split <;> rfl
    rw [this]
    exact ⟨rfl, rfl, trivial⟩
  · refine ⟨⟨by rw [e v hv]; rfl, ?_, ?_⟩, trivial, trivial⟩
    · rw [e v hv]
      show (1 : Int) = (1 + (ini n v).lt) + 0
      rw [e v hv]; rfl
    · rw [e v hv]; exact IsMin.one _ v
  · show (sub n (fun _ => 0) v : Int) = 1 + (ini n v).lt + sub n (fun _ => 0) 0
    rw [sub1 v hv, sub_zero, e v hv]; rfl
end Go.Proofs.YtlooaipipmiijaaGreat
