/- Several texts in one: LcD, LcE. -/
import Derived.Test.YtlooaipipmiijaaGreatZX02
namespace Go.Proofs.YtlooaipipmiijaaGreat
set_option linter.unusedVariables false
set_option linter.unusedSimpArgs false
theorem flip_rest (N : NS) (k x : Nat) : (flipK N k x).k0 = (N x).k0 ∧ (flipK N k x).k1 = (N x).k1 ∧ (flipK N k x).up = (N x).up ∧ (flipK N k x).key = (N x).key ∧ (flipK N k x).sz = (N x).sz ∧ (flipK N k x).fst = (N x).fst ∧ (flipK N k x).lt = (N x).lt ∧ (flipK N k x).tot = (N x).tot := by
  unfold flipK
  split
  · exact ⟨rfl, rfl, rfl, rfl, rfl, rfl, rfl, rfl⟩
  · by_cases e : x = k
    · subst e; rw [uN_same]; exact ⟨rfl, rfl, rfl, rfl, rfl, rfl, rfl, rfl⟩
    · rw [uN_ne _ _ e]; exact ⟨rfl, rfl, rfl, rfl, rfl, rfl, rfl, rfl⟩
theorem flip_ne {N : NS} {k x : Nat} (h : x ≠ k ∨ k = 0) : flipK N k x = N x := by
  unfold flipK
  split
  · rfl
  · rename_i h0; exact uN_ne _ _ (h.resolve_right h0)
theorem flip_at {N : NS} {k : Nat} (h : k ≠ 0) : (flipK N k k).fl = !(N k).fl := by
  unfold flipK
  rw [if_neg h, uN_same]
theorem sq_flip {N N' : NS} {t : Sp} (h : t.root ≠ 0) (h1 : (N' t.root).fl = !(N t.root).fl) (h2 : ∀ x, x ∈ t.els → x ≠ t.root → (N' x).fl = (N x).fl) (hn : t.els.Nodup) : sq N' t = (sq N t).reverse := by
  cases t with
  | nil => exact absurd rfl h
  | node l i r =>
    obtain ⟨n1, n2, n3⟩ := List.nodup_append.1 hn
    have h1' : (N' i).fl = !(N i).fl := h1
    have el : sq N' l = sq N l := sq_congr fun x hx => h2 x (List.mem_append.2 (.inl hx)) fun e => n3 x hx i (.head _) e
    have er : sq N' r = sq N r := sq_congr fun x hx => h2 x (List.mem_append.2 (.inr (.tail _ hx))) fun e => (List.nodup_cons.1 n2).1 (by rw [← show x = i from e]; exact hx)
    unfold sq
    rw [h1', el, er]
    cases (N i).fl <;> simp
structure PshRes (N N' : NS) (l : Sp) (i : Nat) (r : Sp) (u : Nat) (l' r' : Sp) : Prop where
  sh : l' = l ∧ r' = r ∨ l' = r ∧ r' = l
  rep : Rep N' (.node l' i r') u
  sq : sq N' (.node l' i r') = sq N (.node l i r)
  fl : (N' i).fl = false
  agg : Agg N' (.node l' i r')
  rest : ∀ x, (N' x).up = (N x).up ∧ (N' x).key = (N x).key ∧ (N' x).lt = (N x).lt
  ptr : ∀ x, x ≠ i → (N' x).k0 = (N x).k0 ∧ (N' x).k1 = (N x).k1
  ks : ((N' i).k0 = (N i).k0 ∧ (N' i).k1 = (N i).k1) ∨ ((N' i).k0 = (N i).k1 ∧ (N' i).k1 = (N i).k0)
  out : ∀ x, x ∉ (Sp.node l i r).els → N' x = N x
theorem push_res {N : NS} {l : Sp} {i : Nat} {r : Sp} {u : Nat} (h : Rep N (.node l i r) u) (hn : (Sp.node l i r).els.Nodup) (ha : Agg N (.node l i r)) : ∃ l' r', PshRes N (pushN N i) l i r u l' r' := by
  by_cases hf : (N i).fl = true
  · refine ⟨r, l, ?_⟩
    obtain ⟨i0, hu, h0, h1, hl, hr⟩ := h
    obtain ⟨n1, n2, n3⟩ := List.nodup_append.1 hn
    obtain ⟨n4, n5⟩ := List.nodup_cons.1 n2
    have il : i ∉ l.els := fun hm => n3 i hm i (.head _) rfl
    have dlr : ∀ x, x ∈ l.els → x ∉ r.els := fun x hx hy => n3 x hx x (.tail _ hy) rfl
    have e : pushN N i = flipK (flipK (updN N i { N i with fl := false, k0 := (N i).k1, k1 := (N i).k0 }) r.root) l.root := by
      unfold pushN; rw [if_pos hf, h0, h1]
    rw [e]
    have lri : l.root ≠ i ∨ l.root = 0 := by
      by_cases h : l.root = 0
      · exact .inr h
      · exact .inl fun e => il (e ▸ root_mem h)
    have rri : r.root ≠ i ∨ r.root = 0 := by
      by_cases h : r.root = 0
      · exact .inr h
      · exact .inl fun e => n4 (e ▸ root_mem h)
    have ats : ∀ x, x ≠ i → (flipK (flipK (updN N i { N i with fl := false, k0 := (N i).k1, k1 := (N i).k0 }) r.root) l.root x).k0 = (N x).k0 ∧ (flipK (flipK (updN N i { N i with fl := false, k0 := (N i).k1, k1 := (N i).k0 }) r.root) l.root x).k1 = (N x).k1 := fun x hx => by
      obtain ⟨a1, a2, _⟩ := flip_rest (flipK (updN N i { N i with fl := false, k0 := (N i).k1, k1 := (N i).k0 }) r.root) l.root x
      obtain ⟨b1, b2, _⟩ := flip_rest (updN N i { N i with fl := false, k0 := (N i).k1, k1 := (N i).k0 }) r.root x
      rw [a1, a2, b1, b2, uN_ne _ _ hx]; exact ⟨rfl, rfl⟩
    have rest : ∀ x, (flipK (flipK (updN N i { N i with fl := false, k0 := (N i).k1, k1 := (N i).k0 }) r.root) l.root x).up = (N x).up ∧ (flipK (flipK (updN N i { N i with fl := false, k0 := (N i).k1, k1 := (N i).k0 }) r.root) l.root x).key = (N x).key ∧ (flipK (flipK (updN N i { N i with fl := false, k0 := (N i).k1, k1 := (N i).k0 }) r.root) l.root x).lt = (N x).lt ∧ (flipK (flipK (updN N i { N i with fl := false, k0 := (N i).k1, k1 := (N i).k0 }) r.root) l.root x).sz = (N x).sz ∧ (flipK (flipK (updN N i { N i with fl := false, k0 := (N i).k1, k1 := (N i).k0 }) r.root) l.root x).tot = (N x).tot ∧ (flipK (flipK (updN N i { N i with fl := false, k0 := (N i).k1, k1 := (N i).k0 }) r.root) l.root x).fst = (N x).fst := fun x => by
      obtain ⟨_, _, a1, a2, a3, a4, a5, a6⟩ := flip_rest (flipK (updN N i { N i with fl := false, k0 := (N i).k1, k1 := (N i).k0 }) r.root) l.root x
      obtain ⟨_, _, b1, b2, b3, b4, b5, b6⟩ := flip_rest (updN N i { N i with fl := false, k0 := (N i).k1, k1 := (N i).k0 }) r.root x
      rw [a1, a2, a3, a4, a5, a6, b1, b2, b3, b4, b5, b6]
      by_cases e : x = i
      · subst e; rw [uN_same]; exact ⟨rfl, rfl, rfl, rfl, rfl, rfl⟩
      · rw [uN_ne _ _ e]; exact ⟨rfl, rfl, rfl, rfl, rfl, rfl⟩
    have ati : flipK (flipK (updN N i { N i with fl := false, k0 := (N i).k1, k1 := (N i).k0 }) r.root) l.root i = { N i with fl := false, k0 := (N i).k1, k1 := (N i).k0 } := by
      rw [flip_ne (lri.imp (fun h e => h e.symm) id), flip_ne (rri.imp (fun h e => h e.symm) id), uN_same]
    have outl : ∀ x, x ∈ l.els → x ≠ l.root → flipK (flipK (updN N i { N i with fl := false, k0 := (N i).k1, k1 := (N i).k0 }) r.root) l.root x = N x := fun x hx hxr => by
      have hr2 : x ≠ r.root ∨ r.root = 0 := by
        by_cases h : r.root = 0
        · exact .inr h
        · exact .inl fun e => dlr x hx (e ▸ root_mem h)
      have hxi : x ≠ i := fun e => il (e ▸ hx)
      rw [flip_ne (.inl hxr), flip_ne hr2, uN_ne _ _ hxi]
    have outr : ∀ x, x ∈ r.els → x ≠ r.root → flipK (flipK (updN N i { N i with fl := false, k0 := (N i).k1, k1 := (N i).k0 }) r.root) l.root x = N x := fun x hx hxr => by
      have hl2 : x ≠ l.root ∨ l.root = 0 := by
        by_cases h : l.root = 0
        · exact .inr h
        · exact .inl fun e => dlr x (e ▸ root_mem h) hx
      have hxi : x ≠ i := fun e => n4 (e ▸ hx)
      rw [flip_ne hl2, flip_ne (.inl hxr), uN_ne _ _ hxi]
    have fll : l.root ≠ 0 → (flipK (flipK (updN N i { N i with fl := false, k0 := (N i).k1, k1 := (N i).k0 }) r.root) l.root l.root).fl = !(N l.root).fl := fun h => by
      have hr2 : l.root ≠ r.root ∨ r.root = 0 := by
        by_cases h2 : r.root = 0
        · exact .inr h2
        · exact .inl fun e => dlr _ (root_mem h) (e ▸ root_mem h2)
      rw [flip_at h, flip_ne hr2, uN_ne _ _ (lri.resolve_right h)]
    have flr : r.root ≠ 0 → (flipK (flipK (updN N i { N i with fl := false, k0 := (N i).k1, k1 := (N i).k0 }) r.root) l.root r.root).fl = !(N r.root).fl := fun h => by
      have hl2 : r.root ≠ l.root ∨ l.root = 0 := by
        by_cases h2 : l.root = 0
        · exact .inr h2
        · exact .inl fun e => dlr _ (root_mem h2) (e ▸ root_mem h)
      rw [flip_ne hl2, flip_at h, uN_ne _ _ (rri.resolve_right h)]
    generalize hG : flipK (flipK (updN N i { N i with fl := false, k0 := (N i).k1, k1 := (N i).k0 }) r.root) l.root = N' at *
    have sl : sq N' l = (sq N l).reverse := by
      by_cases h : l.root = 0
      · rw [root_zero hl h]; rfl
      · exact sq_flip h (fll h) (fun x hx hxr => by rw [outl x hx hxr]) n1
    have sr : sq N' r = (sq N r).reverse := by
      by_cases h : r.root = 0
      · rw [root_zero hr h]; rfl
      · exact sq_flip h (flr h) (fun x hx hxr => by rw [outr x hx hxr]) n5
    have fi : (N' i).fl = false := by rw [ati]
    have rl : Rep N' l i := rep_congr hl fun x hx => ⟨(ats x (fun e => il (e ▸ hx))).1, (ats x (fun e => il (e ▸ hx))).2, (rest x).1⟩
    have rr : Rep N' r i := rep_congr hr fun x hx => ⟨(ats x (fun e => n4 (e ▸ hx))).1, (ats x (fun e => n4 (e ▸ hx))).2, (rest x).1⟩
    have ag : ∀ {t : Sp}, Agg N t → Agg N' t := fun h => agg_congr h fun x _ => by obtain ⟨_, a, b, c, d, e⟩ := rest x; exact ⟨c, d, e, a, b⟩
    refine ⟨.inr ⟨rfl, rfl⟩, ⟨i0, by rw [(rest i).1]; exact hu, by rw [ati]; exact h1, by rw [ati]; exact h0, rr, rl⟩, ?_, fi, ⟨?_, ag ha.2.2, ag ha.2.1⟩, fun x => ⟨(rest x).1, (rest x).2.1, (rest x).2.2.1⟩, ats, .inr ⟨by rw [ati], by rw [ati]⟩, fun x hx => ?_⟩
    · unfold sq
      rw [fi, hf, sl, sr]
      simp
    · obtain ⟨_, a, b, c, d, e⟩ := rest i
      have hp : (l.els ++ i :: r.els).Perm (r.els ++ i :: l.els) := List.perm_middle.trans ((List.Perm.cons i List.perm_append_comm).trans List.perm_middle.symm)
      exact (ha.1.perm hp).congr c d e fun x _ => ⟨(rest x).2.1, (rest x).2.2.1⟩
    · have hxi : x ≠ i := fun e => hx (by rw [e]; exact List.mem_append.2 (.inr (.head _)))
      have hxl : x ∉ l.els := fun h => hx (List.mem_append.2 (.inl h))
      have hxr : x ∉ r.els := fun h => hx (List.mem_append.2 (.inr (.tail _ h)))
      have hr2 : x ≠ r.root ∨ r.root = 0 := by
        by_cases h : r.root = 0
        · exact .inr h
        · exact .inl fun e => hxr (e ▸ root_mem h)
      have hl2 : x ≠ l.root ∨ l.root = 0 := by
        by_cases h : l.root = 0
        · exact .inr h
        · exact .inl fun e => hxl (e ▸ root_mem h)
      rw [← hG, flip_ne hl2, flip_ne hr2, uN_ne _ _ hxi]
  · have e : pushN N i = N := by unfold pushN; rw [if_neg hf]
    rw [e]
    exact ⟨l, r, .inl ⟨rfl, rfl⟩, h, rfl, Bool.eq_false_iff.2 hf, ha, fun _ => ⟨rfl, rfl, rfl⟩, fun _ _ => ⟨rfl, rfl⟩, .inl ⟨rfl, rfl⟩, fun _ _ => rfl⟩
def CP (N : NS) : Nat → List Nat → Prop
  | _, [] => True
  | i, p :: L => sideN N i ≠ none ∧ (N i).up = p ∧ CP N p L
theorem CP.app {N : NS} : ∀ {L : List Nat} {i q x : Nat}, CP N i L → (i :: L).getLast (List.cons_ne_nil _ _) = q → sideN N q ≠ none → (N q).up = x → CP N i (L ++ [x])
  | [], i, q, x, _, e, h1, h2 => by rw [← show i = q from e] at h1 h2; exact ⟨h1, h2, trivial⟩
  | p :: L, i, q, x, ⟨a, b, c⟩, e, h1, h2 => ⟨a, b, c.app (by rw [← e]; rfl) h1 h2⟩
theorem CP.congr {N N' : NS} : ∀ {L : List Nat} {i : Nat}, CP N i L → (∀ x, x ∈ i :: L → (N' x).k0 = (N x).k0 ∧ (N' x).k1 = (N x).k1 ∧ (N' x).up = (N x).up) → CP N' i L
  | [], _, _, _ => trivial
  | p :: L, i, ⟨a, b, c⟩, h => by
    obtain ⟨_, _, h3⟩ := h i (.head _)
    obtain ⟨p1, p2, _⟩ := h p (.tail _ (.head _))
    refine ⟨?_, h3.trans b, c.congr fun x hx => h x (.tail _ hx)⟩
    have e : sideN N' i = sideN N i := by
      unfold sideN
      rw [h3, b, p1, p2]
    rw [e]
    exact a
theorem push_path (i : Nat) : ∀ (T : Sp) (N : NS) (u : Nat), Rep N T u → T.els.Nodup → i ∈ T.els → Agg N T →
    ∃ (L : List Nat) (A B : Sp) (c : Cx) (N' : NS), N' = (i :: L).foldr (fun j M => pushN M j) N ∧ CP N i L ∧ (i :: L).getLast (List.cons_ne_nil _ _) = T.root ∧ (∀ x, x ∈ i :: L → x ∈ T.els) ∧ (i :: L).length ≤ T.els.length ∧
      (Rep N' (plug (.node A i B) c) u ∧ Agg N' (plug (.node A i B) c) ∧ Nxt N T N' (plug (.node A i B) c) ∧ (N' i).fl = false ∧ (∀ e, e ∈ c → (N' e.2.1).fl = false) ∧ (plug (.node A i B) c).root = T.root) := by
  intro T
  induction T with
  | nil => intro N u _ _ h; exact absurd h List.not_mem_nil
  | node l x r ihl ihr =>
    intro N u h hn hi ha
    obtain ⟨l', r', P⟩ := push_res h hn ha
    have hpe : (Sp.node l' x r').els.Perm (Sp.node l x r).els := by
      rcases P.sh with ⟨e1, e2⟩ | ⟨e1, e2⟩
      · subst e1 e2; exact List.Perm.refl _
      · subst e1 e2; exact List.perm_middle.trans ((List.Perm.cons x List.perm_append_comm).trans List.perm_middle.symm)
    have nx : Nxt N (.node l x r) (pushN N x) (.node l' x r') := ⟨hpe, P.sq, fun y => ⟨(P.rest y).2.1, (P.rest y).2.2⟩, P.out⟩
    by_cases e : i = x
    · subst e
      exact ⟨[], l', r', [], _, rfl, trivial, rfl, fun y hy => by rw [List.mem_singleton.1 hy]; exact List.mem_append.2 (.inr (.head _)), by show 1 ≤ (l.els ++ i :: r.els).length; simp; omega, P.rep, P.agg, nx, P.fl, fun e he => absurd he List.not_mem_nil, rfl⟩
    ·
      obtain ⟨n1, n2, n3⟩ := List.nodup_append.1 hn
      obtain ⟨n4, n5⟩ := List.nodup_cons.1 n2
      have xl : x ∉ l.els := fun hm => n3 x hm x (.head _) rfl
      have dlr : ∀ y, y ∈ l.els → y ∉ r.els := fun y hx hy => n3 y hx y (.tail _ hy) rfl
      have go : ∀ (s0 : Bool) (t b : Sp), Sp.node l x r = nodeS s0 t x b → i ∈ t.els → (∀ (M : NS) (v : Nat), Rep M t v → t.els.Nodup → i ∈ t.els → Agg M t →
          ∃ (L : List Nat) (A B : Sp) (c : Cx) (N' : NS), N' = (i :: L).foldr (fun j M => pushN M j) M ∧ CP M i L ∧ (i :: L).getLast (List.cons_ne_nil _ _) = t.root ∧ (∀ y, y ∈ i :: L → y ∈ t.els) ∧ (i :: L).length ≤ t.els.length ∧
          (Rep N' (plug (.node A i B) c) v ∧ Agg N' (plug (.node A i B) c) ∧ Nxt M t N' (plug (.node A i B) c) ∧ (N' i).fl = false ∧ (∀ e, e ∈ c → (N' e.2.1).fl = false) ∧ (plug (.node A i B) c).root = t.root)) →
          (∃ s, Sp.node l' x r' = nodeS s t x b) →
          ∃ (L : List Nat) (A B : Sp) (c : Cx) (N' : NS), N' = (i :: L).foldr (fun j M => pushN M j) N ∧ CP N i L ∧ (i :: L).getLast (List.cons_ne_nil _ _) = (Sp.node l x r).root ∧ (∀ y, y ∈ i :: L → y ∈ (Sp.node l x r).els) ∧ (i :: L).length ≤ (Sp.node l x r).els.length ∧
            (Rep N' (plug (.node A i B) c) u ∧ Agg N' (plug (.node A i B) c) ∧ Nxt N (.node l x r) N' (plug (.node A i B) c) ∧ (N' i).fl = false ∧ (∀ e, e ∈ c → (N' e.2.1).fl = false) ∧ (plug (.node A i B) c).root = (Sp.node l x r).root) := by
        intro s0 t b e0 hit ih ⟨s, es⟩
        have hn0 : (nodeS s0 t x b).els.Nodup := e0 ▸ hn
        obtain ⟨m1, m2, m3, m4, m5⟩ := nodeS_nodup.1 hn0
        have hrep := P.rep
        have hagg := P.agg
        rw [es] at hrep hagg
        obtain ⟨x0, hxu, hk1, hk2, hrt, hrb⟩ := nodeS_rep.1 hrep
        obtain ⟨a1, a2, a3⟩ := nodeS_agg.1 hagg
        obtain ⟨L, A, B, c, N', hN', cp, hl, hm, hlen, q1, q2, q3, q4, q5, q6⟩ := ih (pushN N x) x hrt m3 hit a2
        have ht0 : t.root ≠ 0 := fun e => by rw [root_zero hrt e] at hit; exact absurd hit List.not_mem_nil
        have cpN : CP N i L := cp.congr fun y hy => by
          have := P.ptr y (fun e => m1 (e ▸ hm y hy))
          exact ⟨this.1.symm, this.2.symm, (P.rest y).1.symm⟩
        have sd := side_kid (e0 ▸ h : Rep N (nodeS s0 t x b) u) hn0 ht0
        refine ⟨L ++ [x], A, B, c ++ [(s, x, b)], N', by rw [hN', ← List.cons_append, List.foldr_append]; rfl, cpN.app hl (by rw [sd.1]; exact fun e => by cases e) sd.2, by show _ = x; rw [List.getLast_cons (by simp)]; simp, fun y hy => ?_, ?_, ?_⟩
        · rw [e0, nodeS_mem]
          rw [← List.cons_append, List.mem_append, List.mem_singleton] at hy
          rcases hy with h | h
          · exact .inr (.inl (hm y h))
          · exact .inl h
        · have h1 : (Sp.node l x r).els.length = t.els.length + b.els.length + 1 := by
            rw [e0, (nodeS_perm s0 t x b).length_eq]; simp
          have h2 : (i :: (L ++ [x])).length = (i :: L).length + 1 := by simp
          omega
        · rw [plug_app]
          have outt : ∀ y, y ∉ t.els → N' y = pushN N x y := q3.out
          have ox := outt x m1
          have ob : ∀ y, y ∈ b.els → N' y = pushN N x y := fun y hy => outt y fun h => m5 y h hy
          have hper : (nodeS s (plug (.node A i B) c) x b).els.Perm (nodeS s t x b).els := (nodeS_perm _ _ _ _).trans ((List.Perm.cons x (List.Perm.append_right _ q3.per)).trans (nodeS_perm _ _ _ _).symm)
          have nx2 : Nxt (pushN N x) (nodeS s t x b) N' (nodeS s (plug (.node A i B) c) x b) :=
            ⟨hper, nodeS_sq2 (by rw [ox]) q3.sq (sq_congr fun y hy => by rw [ob y hy]), q3.kl, fun y hy => outt y fun h => hy (nodeS_mem.2 (.inr (.inl h)))⟩
          refine ⟨nodeS_rep.2 ⟨x0, by rw [ox]; exact hxu, ?_, ?_, q1, rep_congr hrb fun y hy => by rw [ob y hy]; exact ⟨rfl, rfl, rfl⟩⟩, ?_, ?_, q4, ?_, by rw [nodeS_root]; rfl⟩
          · rw [q6, ← hk1]; unfold kid; rw [ox]
          · rw [← hk2]; unfold kid; rw [ox]
          · refine nodeS_agg.2 ⟨?_, q2, agg_congr a3 fun y hy => by rw [ob y hy]; exact ⟨rfl, rfl, rfl, rfl, rfl⟩⟩
            exact (a1.perm (List.Perm.cons x (List.Perm.append_right _ q3.per.symm))).congr (by rw [ox]) (by rw [ox]) (by rw [ox]) fun y _ => q3.kl y
          · have := nx
            rw [es] at this
            exact this.trans nx2
          · intro e he
            rcases List.mem_append.1 he with h | h
            · exact q5 e h
            · rw [List.mem_singleton.1 h]
              show (N' x).fl = false
              rw [ox]; exact P.fl
      rcases List.mem_append.1 hi with hl | hr
      · refine go false l r rfl hl ihl ?_
        rcases P.sh with ⟨e1, e2⟩ | ⟨e1, e2⟩
        · exact ⟨false, by rw [e1, e2]; rfl⟩
        · exact ⟨true, by rw [e1, e2]; rfl⟩
      · rcases List.mem_cons.1 hr with hr | hr
        · exact absurd hr e
        · refine go true r l rfl hr ihr ?_
          rcases P.sh with ⟨e1, e2⟩ | ⟨e1, e2⟩
          · exact ⟨true, by rw [e1, e2]; rfl⟩
          · exact ⟨false, by rw [e1, e2]; rfl⟩
def SplayR (N : NS) (i : Nat) (N' : NS) : Prop :=
  ∃ L m, L.length ≤ 2000000 ∧ CP N i L ∧ sideN N ((i :: L).getLast (List.cons_ne_nil _ _)) = none ∧ SpinR m ((i :: L).foldr (fun j M => pushN M j) N) i N'
theorem splay_ok {N : NS} {T : Sp} {u i : Nat} (h : St N T [] u) (hi : i ∈ T.els) (hT : T.els.length ≤ 1000001) : ∃ N' A B, SplayR N i N' ∧ St N' (.node A i B) [] u ∧ Nxt N T N' (.node A i B) ∧ (N' i).fl = false := by
  obtain ⟨L, A, B, c, M, hM, cp, hl, hm, hlen, q1, q2, q3, q4, q5, q6⟩ := push_path i T N u h.rep h.nod hi h.agg
  have ht0 : T.root ≠ 0 := fun e => by rw [root_zero (show Rep N T u from h.rep) e] at hi; exact absurd hi List.not_mem_nil
  have hu := q3.out u h.un
  have st : St M (.node A i B) c u := by
    refine ⟨q1, q3.per.nodup_iff.2 h.nod, fun hm => h.un (q3.per.mem_iff.1 hm), ?_, q2, fun x hx => by rw [(q3.kl x).2]; exact h.lt x (q3.per.mem_iff.1 hx), by rw [sumW_congr fun x _ => (q3.kl x).2, sumW_perm q3.per]; exact h.sum⟩
    rw [hu]
    exact h.ro.imp id fun ⟨h1, h2⟩ => ⟨fun hm => h1 (q3.per.mem_iff.1 hm), fun hm => h2 (q3.per.mem_iff.1 hm)⟩
  obtain ⟨k, N', A', B', sp, st', nx, fl⟩ := spin_ok i u c.length c _ A B (Nat.le_refl _) st q4 q5
  exact ⟨N', A', B', ⟨L, k, by simp at hlen; omega, cp, by rw [hl]; exact St.side0 h ht0, by rw [← hM]; exact sp⟩, st', q3.trans nx, fl⟩
end Go.Proofs.YtlooaipipmiijaaGreat

namespace Go.Proofs.YtlooaipipmiijaaGreat
set_option linter.unusedVariables false
set_option linter.unusedSimpArgs false
open Classical in
noncomputable def cntP (P : Nat → Prop) : Nat → Nat
  | 0 => 0
  | n + 1 => cntP P n + if P n then 1 else 0
theorem cntP_congr {P Q : Nat → Prop} : ∀ n, (∀ x, x < n → (P x ↔ Q x)) → cntP P n = cntP Q n
  | 0, _ => rfl
  | n + 1, h => by
    unfold cntP
    rw [cntP_congr n fun x hx => h x (by omega)]
    by_cases c : P n
    · rw [if_pos c, if_pos ((h n (by omega)).1 c)]
    · rw [if_neg c, if_neg fun k => c ((h n (by omega)).2 k)]
theorem cntP_sub {P Q : Nat → Prop} : ∀ n, (∀ x, x < n → P x → Q x) → cntP (fun x => Q x ∧ ¬ P x) n + cntP P n = cntP Q n
  | 0, _ => rfl
  | n + 1, h => by
    have ih := cntP_sub n fun x hx => h x (by omega)
    unfold cntP
    have hn := h n (by omega)
    by_cases c : P n
    · rw [if_pos c, if_pos (hn c), if_neg fun k => k.2 c]; omega
    · by_cases c2 : Q n
      · rw [if_neg c, if_pos c2, if_pos ⟨c2, c⟩]; omega
      · rw [if_neg c, if_neg c2, if_neg fun k => c2 k.1]; omega
theorem cntP_none {P : Nat → Prop} : ∀ n, (∀ x, x < n → ¬ P x) → cntP P n = 0
  | 0, _ => rfl
  | n + 1, h => by unfold cntP; rw [cntP_none n fun x hx => h x (by omega), if_neg (h n (by omega))]
theorem cntP_one {P : Nat → Prop} {a : Nat} : ∀ n, a < n → (∀ x, x < n → (P x ↔ x = a)) → cntP P n = 1
  | 0, h, _ => absurd h (Nat.not_lt_zero a)
  | n + 1, h, k => by
    unfold cntP
    by_cases e : a = n
    · rw [cntP_none n fun x hx p => by have := (k x (by omega)).1 p; omega, if_pos ((k n (by omega)).2 e.symm)]
    · rw [cntP_one n (by omega) fun x hx => k x (by omega), if_neg fun p => e ((k n (by omega)).1 p).symm]
theorem cntP_le {P : Nat → Prop} : ∀ n, cntP P n ≤ n
  | 0 => Nat.le_refl _
  | n + 1 => by
    unfold cntP
    have := cntP_le (P := P) n
    split <;> omega
theorem cntP_lt {P Q : Nat → Prop} {n z : Nat} (hz : z < n) (h : ∀ x, x < n → P x → Q x) (h1 : Q z) (h2 : ¬ P z) : cntP P n + 1 ≤ cntP Q n := by
  have e := cntP_sub n h
  have e2 : cntP (fun x => x = z) n = 1 := cntP_one n hz fun x _ => Iff.rfl
  have e3 := cntP_sub (P := fun x => x = z) (Q := fun x => Q x ∧ ¬ P x) n fun x hx k => by rw [k]; exact ⟨h1, h2⟩
  omega
inductive Anc (par : Nat → Nat) (a : Nat) : Nat → Prop
  | refl : Anc par a a
  | up {v : Nat} (h : par v ≠ 0) (k : Anc par a (par v)) : Anc par a v
theorem Anc.trans {par : Nat → Nat} {a b c : Nat} (h : Anc par a b) (k : Anc par b c) : Anc par a c := by
  induction k with
  | refl => exact h
  | up h0 _ ih => exact .up h0 ih
theorem Anc.of_root {par : Nat → Nat} {a v : Nat} (h : Anc par a v) (h0 : par v = 0) : a = v := by
  cases h with
  | refl => rfl
  | up h1 _ => exact absurd h0 h1
theorem Anc.lin {par : Nat → Nat} {a b v : Nat} (h : Anc par a v) (k : Anc par b v) : Anc par a b ∨ Anc par b a := by
  induction h with
  | refl => exact .inr k
  | up h0 h1 ih =>
    cases k with
    | refl => exact .inl (.up h0 h1)
    | up _ k1 => exact ih k1
theorem Anc.top_uniq {par : Nat → Nat} {a b v : Nat} (h : Anc par a v) (k : Anc par b v) (ha : par a = 0) (hb : par b = 0) : a = b := by
  rcases h.lin k with h | h
  · exact h.of_root hb
  · exact (h.of_root ha).symm
theorem Anc.zero {par : Nat → Nat} {v : Nat} (h : Anc par 0 v) : v = 0 := by
  induction h with
  | refl => rfl
  | up h0 _ ih => exact absurd ih h0
def VV (n v : Nat) : Prop := 1 ≤ v ∧ v ≤ n
def Rk (n : Nat) (par d : Nat → Nat) : Prop := ∀ v, VV n v → par v = 0 ∨ VV n (par v) ∧ d (par v) < d v
theorem Rk.anc {n : Nat} {par d : Nat → Nat} (h : Rk n par d) {a v : Nat} (k : Anc par a v) (hv : VV n v) : VV n a ∧ (a = v ∨ d a < d v) := by
  induction k with
  | refl => exact ⟨hv, .inl rfl⟩
  | up h0 _ ih =>
    rcases h _ hv with h1 | ⟨h1, h2⟩
    · exact absurd h1 h0
    · obtain ⟨h3, h4⟩ := ih h1
      refine ⟨h3, .inr ?_⟩
      rcases h4 with h4 | h4
      · rw [h4]; exact h2
      · omega
theorem Rk.top {n : Nat} {par d : Nat → Nat} (h : Rk n par d) : ∀ k v, d v < k → VV n v → ∃ r, VV n r ∧ par r = 0 ∧ Anc par r v
  | 0, v, hk, _ => absurd hk (Nat.not_lt_zero _)
  | k + 1, v, hk, hv => by
    rcases h v hv with h1 | ⟨h1, h2⟩
    · exact ⟨v, hv, h1, .refl⟩
    · obtain ⟨r, a, b, c⟩ := Rk.top h k (par v) (by omega) h1
      exact ⟨r, a, b, .up (by intro e; have := h1.1; omega) c⟩
noncomputable def sub (n : Nat) (par : Nat → Nat) (v : Nat) : Nat := cntP (fun x => VV n x ∧ Anc par v x) (n + 1)
theorem sub_zero (n : Nat) (par : Nat → Nat) : sub n par 0 = 0 := cntP_none _ fun x _ h => by have := h.2.zero; have := h.1.1; omega
theorem sub_le (n : Nat) (par : Nat → Nat) (v : Nat) : sub n par v ≤ n + 1 := cntP_le _
theorem sub_kid {n : Nat} {par d : Nat → Nat} (h : Rk n par d) {c : Nat} (hc : VV n c) (hp : par c ≠ 0) : sub n par c + 1 ≤ sub n par (par c) := by
  obtain ⟨h1, h2⟩ := (h c hc).resolve_left hp
  refine cntP_lt (z := par c) (by have := h1.2; omega) (fun x _ k => ⟨k.1, Anc.trans (.up hp .refl) k.2⟩) ⟨h1, .refl⟩ fun k => ?_
  rcases (h.anc k.2 h1).2 with e | e
  · rw [← e] at h2; omega
  · omega
theorem sub_congr {n : Nat} {par par' : Nat → Nat} {v v' : Nat} (h : ∀ x, VV n x → (Anc par v x ↔ Anc par' v' x)) : sub n par v = sub n par' v' :=
  cntP_congr _ fun x _ => ⟨fun ⟨a, b⟩ => ⟨a, (h x a).1 b⟩, fun ⟨a, b⟩ => ⟨a, (h x a).2 b⟩⟩
def Sgm (par pk : Nat → Nat) : Nat → List Nat → Nat → Prop
  | _, [], _ => True
  | u, x :: L, e => par x = u ∧ pk x = L.headD e ∧ Sgm par pk x L e
theorem Sgm.app {par pk : Nat → Nat} {e x : Nat} {B : List Nat} : ∀ {A : List Nat} {u : Nat}, Sgm par pk u (A ++ x :: B) e ↔ Sgm par pk u A x ∧ par x = (A.getLast?).getD u ∧ pk x = B.headD e ∧ Sgm par pk x B e
  | [], u => ⟨fun ⟨a, b, c⟩ => ⟨trivial, a, b, c⟩, fun ⟨_, a, b, c⟩ => ⟨a, b, c⟩⟩
  | y :: A, u => by
    have ih := Sgm.app (par := par) (pk := pk) (e := e) (x := x) (B := B) (A := A) (u := y)
    have e1 : (A ++ x :: B).headD e = A.headD x := by cases A <;> rfl
    have e2 : ((y :: A).getLast?).getD u = (A.getLast?).getD y := by
      cases A with
      | nil => rfl
      | cons z A => rw [List.getLast?_cons_cons]; rw [List.getLast?_eq_some_getLast (List.cons_ne_nil z A)]; rfl
    rw [e2]
    show (par y = u ∧ pk y = (A ++ x :: B).headD e ∧ Sgm par pk y (A ++ x :: B) e) ↔ (par y = u ∧ pk y = A.headD x ∧ Sgm par pk y A x) ∧ _
    rw [ih, e1]
    constructor
    · rintro ⟨a, b, c, d, f, g⟩; exact ⟨⟨a, b, c⟩, d, f, g⟩
    · rintro ⟨⟨a, b, c⟩, d, f, g⟩; exact ⟨a, b, c, d, f, g⟩
theorem Sgm.congr {par pk par' pk' : Nat → Nat} {e : Nat} : ∀ {L : List Nat} {u : Nat}, Sgm par pk u L e → (∀ x, x ∈ L → par' x = par x ∧ pk' x = pk x) → Sgm par' pk' u L e
  | [], _, _, _ => trivial
  | x :: L, u, ⟨a, b, c⟩, h => ⟨(h x (.head _)).1.trans a, (h x (.head _)).2.trans b, c.congr fun y hy => h y (.tail _ hy)⟩
theorem Sgm.rev {par pk : Nat → Nat} {e : Nat} : ∀ {L : List Nat} {u : Nat}, Sgm par pk u L e → Sgm pk par e L.reverse u
  | [], _, _ => trivial
  | x :: L, u, ⟨a, b, c⟩ => by
    rw [List.reverse_cons]
    refine Sgm.app.2 ⟨c.rev, ?_, a, trivial⟩
    rw [b, List.getLast?_reverse]
    exact List.headD_eq_head?_getD
theorem Sgm.nz {par pk : Nat → Nat} {e u : Nat} {x : Nat} {L : List Nat} (h : Sgm par pk u (x :: L) e) (hn : ∀ y, y ∈ x :: L → y ≠ 0) : ∀ y, y ∈ x :: L → Anc par x y := by
  induction L generalizing u x with
  | nil => intro y hy; rw [List.mem_singleton.1 hy]; exact .refl
  | cons z L ih =>
    obtain ⟨a, b, c⟩ := h
    intro y hy
    rcases List.mem_cons.1 hy with hy | hy
    · rw [hy]; exact .refl
    · have h1 := ih c (fun w hw => hn w (.tail _ hw)) y hy
      have hz : par z = x := c.1
      exact Anc.trans (.up (by rw [hz]; exact hn x (.head _)) (by rw [hz]; exact .refl)) h1
theorem Sgm.par_mem {par pk : Nat → Nat} {e : Nat} : ∀ {L : List Nat} {u : Nat}, Sgm par pk u L e → ∀ x, x ∈ L → par x = u ∨ par x ∈ L
  | y :: L, u, ⟨a, b, c⟩, x, hx => by
    rcases List.mem_cons.1 hx with h | h
    · rw [h]; exact .inl a
    · rcases c.par_mem x h with h1 | h1
      · rw [h1]; exact .inr (.head _)
      · exact .inr (.tail _ h1)
theorem Sgm.pk_mem {par pk : Nat → Nat} {e : Nat} : ∀ {L : List Nat} {u : Nat}, Sgm par pk u L e → ∀ x, x ∈ L → pk x = e ∨ pk x ∈ L ∧ par (pk x) = x
  | y :: L, u, ⟨a, b, c⟩, x, hx => by
    rcases List.mem_cons.1 hx with h | h
    · subst h
      cases L with
      | nil => exact .inl b
      | cons z L =>
        rw [show pk x = z from b]
        exact .inr ⟨.tail _ (.head _), c.1⟩
    · rcases c.pk_mem x h with h1 | ⟨h1, h2⟩
      · exact .inl h1
      · exact .inr ⟨.tail _ h1, h2⟩
structure LI (n : Nat) (N : NS) (T : Nat → Sp) (par pk d : Nat → Nat) : Prop where
  z : N 0 = nd00
  mem : ∀ v, VV n v → v ∈ (T v).els
  own : ∀ v x, VV n v → x ∈ (T v).els → VV n x ∧ T x = T v
  nod : ∀ v, VV n v → (T v).els.Nodup
  ex : ∀ v, VV n v → ∃ u, Rep N (T v) u ∧ Sgm par pk u (sq N (T v)) 0
  agg : ∀ v, VV n v → Agg N (T v)
  rk : Rk n par d
  lt : ∀ v, VV n v → (sub n par v : Int) = 1 + (N v).lt + sub n par (pk v)
  l0 : ∀ v, VV n v → 0 ≤ (N v).lt
  nb : n ≤ 1000000
theorem rep_kid {N : NS} {x : Nat} : ∀ {t : Sp} {u : Nat}, Rep N t u → x ∈ t.els → ((N x).k0 = 0 ∨ (N x).k0 ∈ t.els) ∧ ((N x).k1 = 0 ∨ (N x).k1 ∈ t.els)
  | .node l i r, u, ⟨a, b, c, d, e, f⟩, hx => by
    have ml : ∀ y, y ∈ l.els → y ∈ (Sp.node l i r).els := fun y hy => List.mem_append.2 (.inl hy)
    have mr : ∀ y, y ∈ r.els → y ∈ (Sp.node l i r).els := fun y hy => List.mem_append.2 (.inr (.tail _ hy))
    rcases List.mem_append.1 hx with h | h
    · obtain ⟨h1, h2⟩ := rep_kid e h
      exact ⟨h1.imp id (ml _), h2.imp id (ml _)⟩
    · rcases List.mem_cons.1 h with h | h
      · subst h
        rw [c, d]
        constructor
        · by_cases e0 : l.root = 0
          · exact .inl e0
          · exact .inr (ml _ (root_mem e0))
        · by_cases e0 : r.root = 0
          · exact .inl e0
          · exact .inr (mr _ (root_mem e0))
      · obtain ⟨h1, h2⟩ := rep_kid f h
        exact ⟨h1.imp id (mr _), h2.imp id (mr _)⟩
theorem rep_up_mem {N : NS} {x : Nat} : ∀ {t : Sp} {u : Nat}, Rep N t u → x ∈ t.els → (N x).up = u ∨ (N x).up ∈ t.els
  | .node l i r, u, ⟨a, b, c, d, e, f⟩, hx => by
    rcases List.mem_append.1 hx with h | h
    · rcases rep_up_mem e h with h1 | h1
      · rw [h1]; exact .inr (List.mem_append.2 (.inr (.head _)))
      · exact .inr (List.mem_append.2 (.inl h1))
    · rcases List.mem_cons.1 h with h | h
      · subst h; exact .inl b
      · rcases rep_up_mem f h with h1 | h1
        · rw [h1]; exact .inr (List.mem_append.2 (.inr (.head _)))
        · exact .inr (List.mem_append.2 (.inr (.tail _ h1)))
section
variable {n : Nat} {N : NS} {T : Nat → Sp} {par pk d : Nat → Nat}
theorem LI.pth (h : LI n N T par pk d) {v : Nat} (hv : VV n v) : ∃ u x L, Rep N (T v) u ∧ sq N (T v) = x :: L ∧ Sgm par pk u (x :: L) 0 ∧ (∀ y, y ∈ x :: L ↔ y ∈ (T v).els) ∧ par x = u ∧ VV n x ∧ (∀ y, y ∈ (T v).els → Anc par x y ∧ (y = x ∨ d x < d y)) ∧ u ∉ (T v).els := by
  obtain ⟨u, h1, h2⟩ := h.ex v hv
  have hp := sq_perm (N := N) (t := T v)
  cases hs : sq N (T v) with
  | nil => have := hp.mem_iff.2 (h.mem v hv); rw [hs] at this; exact absurd this List.not_mem_nil
  | cons x L =>
    rw [hs] at h2 hp
    have hx : VV n x := (h.own v x hv (hp.mem_iff.1 (.head _))).1
    have hm : ∀ y, y ∈ x :: L → y ≠ 0 := fun y hy => by have := (h.own v y hv (hp.mem_iff.1 hy)).1.1; omega
    have ha : ∀ y, y ∈ (T v).els → Anc par x y ∧ (y = x ∨ d x < d y) := fun y hy => by
      have h3 := h2.nz hm y (hp.mem_iff.2 hy)
      refine ⟨h3, ?_⟩
      rcases (h.rk.anc h3 (h.own v y hv hy).1).2 with e | e
      · exact .inl e.symm
      · exact .inr e
    refine ⟨u, x, L, h1, rfl, h2, fun y => hp.mem_iff, h2.1, hx, ha, fun hu => ?_⟩
    have hvu := (h.own v u hv hu).1
    have hpx : par x = u := h2.1
    rcases h.rk x hx with e | ⟨_, e⟩
    · rw [hpx] at e; have := hvu.1; omega
    · rw [hpx] at e
      rcases (ha u hu).2 with e2 | e2
      · rw [e2] at e; omega
      · omega
theorem LI.par_v (h : LI n N T par pk d) {x : Nat} (hx : VV n x) : par x = 0 ∨ VV n (par x) := (h.rk x hx).imp id And.left
theorem LI.disj (h : LI n N T par pk d) {v w x : Nat} (hv : VV n v) (hw : VV n w) (h1 : x ∈ (T v).els) (h2 : x ∈ (T w).els) : T v = T w := by rw [← (h.own v x hv h1).2, (h.own w x hw h2).2]
theorem LI.kid_out (h : LI n N T par pk d) {v u : Nat} (hv : VV n v) (hu : VV n u) (hn : u ∉ (T v).els) : (N u).k0 ∉ (T v).els ∧ (N u).k1 ∉ (T v).els := by
  obtain ⟨w, hr, _⟩ := h.ex u hu
  obtain ⟨h1, h2⟩ := rep_kid hr (h.mem u hu)
  obtain ⟨w', hr', _⟩ := h.ex v hv
  have go : ∀ k, (k = 0 ∨ k ∈ (T u).els) → k ∉ (T v).els := fun k hk hm => by
    rcases hk with hk | hk
    · exact rep_nz hr' k hm hk
    · exact hn (by rw [h.disj hv hu hm hk]; exact h.mem u hu)
  exact ⟨go _ h1, go _ h2⟩
theorem LI.sum (h : LI n N T par pk d) : ∀ (L : List Nat) (x u : Nat), Sgm par pk u (x :: L) 0 → (∀ y, y ∈ x :: L → VV n y) → sumW N (x :: L) = sub n par x
  | [], x, u, hs, hm => by
    have := h.lt x (hm x (.head _))
    rw [show pk x = 0 from hs.2.1, sub_zero] at this
    rw [sumW_cons]; show _ + (0 : Int) = _; omega
  | y :: L, x, u, hs, hm => by
    have := h.lt x (hm x (.head _))
    rw [show pk x = y from hs.2.1] at this
    rw [sumW_cons, LI.sum h L y x hs.2.2 fun z hz => hm z (.tail _ hz)]; omega
theorem LI.st (h : LI n N T par pk d) {v : Nat} (hv : VV n v) : ∃ u, St N (T v) [] u ∧ Sgm par pk u (sq N (T v)) 0 := by
  obtain ⟨u, x, L, h1, h2, h3, h4, h5, h6, h7, h8⟩ := h.pth hv
  refine ⟨u, ⟨h1, h.nod v hv, h8, ?_, h.agg v hv, fun y hy => h.l0 y (h.own v y hv hy).1, ?_⟩, by rw [h2]; exact h3⟩
  · rcases h.par_v h6 with e | e
    · exact .inl (by rw [← h5]; exact e)
    · rw [h5] at e; exact .inr (h.kid_out hv e h8)
  · rw [show plug (T v) [] = T v from rfl, ← sumW_perm (sq_perm (N := N)), h2, h.sum L x u h3 fun y hy => (h.own v y hv ((h4 y).1 hy)).1]
    have := sub_le n par x
    have := h.nb
    omega
theorem LI.len (h : LI n N T par pk d) {v : Nat} (hv : VV n v) : (T v).els.length ≤ n + 1 := by
  obtain ⟨u, x, L, h1, h2, h3, h4, h5, h6, h7, h8⟩ := h.pth hv
  have e1 := sumW_ge (N := N) (L := (T v).els) fun y hy => h.l0 y (h.own v y hv hy).1
  rw [← sumW_perm (sq_perm (N := N)), h2, h.sum L x u h3 fun y hy => (h.own v y hv ((h4 y).1 hy)).1] at e1
  have := sub_le n par x
  omega
theorem LI.splay (h : LI n N T par pk d) {i : Nat} (hi : VV n i) : ∃ N' T' A B, SplayR N i N' ∧ LI n N' T' par pk d ∧ T' i = .node A i B ∧ (N' i).fl = false ∧ (∀ x, (N' x).key = (N x).key) ∧ (∀ x, x ∉ (T i).els → N' x = N x ∧ T' x = T x) ∧ (T' i).els.Perm (T i).els ∧ sq N' (T' i) = sq N (T i) := by
  obtain ⟨u, st, sg⟩ := h.st hi
  obtain ⟨N', A, B, hsp, st', nx, fl⟩ := splay_ok st (h.mem i hi) (by have := h.len hi; have := h.nb; omega)
  have hm : ∀ x, x ∈ (Sp.node A i B).els ↔ x ∈ (T i).els := fun x => nx.per.mem_iff
  let T' : Nat → Sp := fun x => if x ∈ (T i).els then .node A i B else T x
  have t1 : ∀ x, x ∈ (T i).els → T' x = .node A i B := fun x hx => if_pos hx
  have t2 : ∀ x, x ∉ (T i).els → T' x = T x := fun x hx => if_neg hx
  have far : ∀ v, VV n v → v ∉ (T i).els → ∀ x, x ∈ (T v).els → x ∉ (T i).els := fun v hv hn x hx hx2 => hn (by rw [← h.disj hv hi hx hx2]; exact h.mem v hv)
  refine ⟨N', T', A, B, hsp, ?_, t1 i (h.mem i hi), fl, fun x => (nx.kl x).1, fun x hx => ⟨nx.out x hx, t2 x hx⟩, by rw [t1 i (h.mem i hi)]; exact nx.per, by rw [t1 i (h.mem i hi)]; exact nx.sq⟩
  refine ⟨?_, ?_, ?_, ?_, ?_, ?_, h.rk, ?_, ?_, h.nb⟩
  · rw [nx.out 0 (fun hm => rep_nz st.rep 0 hm rfl)]; exact h.z
  · intro v hv
    by_cases c : v ∈ (T i).els
    · rw [t1 v c, hm]; exact c
    · rw [t2 v c]; exact h.mem v hv
  · intro v x hv hx
    by_cases c : v ∈ (T i).els
    · rw [t1 v c, hm] at hx
      exact ⟨(h.own i x hi hx).1, by rw [t1 v c, t1 x hx]⟩
    · rw [t2 v c] at hx ⊢
      have := h.own v x hv hx
      exact ⟨this.1, by rw [t2 x (far v hv c x hx)]; exact this.2⟩
  · intro v hv
    by_cases c : v ∈ (T i).els
    · rw [t1 v c]; exact st'.nod
    · rw [t2 v c]; exact h.nod v hv
  · intro v hv
    by_cases c : v ∈ (T i).els
    · rw [t1 v c]; exact ⟨u, st'.rep, by rw [nx.sq]; exact sg⟩
    · rw [t2 v c]
      obtain ⟨w, h1, h2⟩ := h.ex v hv
      have he := fun x hx => nx.out x (far v hv c x hx)
      exact ⟨w, rep_congr h1 fun x hx => by rw [he x hx]; exact ⟨rfl, rfl, rfl⟩, by rw [sq_congr fun x hx => by rw [he x hx]]; exact h2⟩
  · intro v hv
    by_cases c : v ∈ (T i).els
    · rw [t1 v c]; exact st'.agg
    · rw [t2 v c]
      exact agg_congr (h.agg v hv) fun x hx => by rw [nx.out x (far v hv c x hx)]; exact ⟨rfl, rfl, rfl, rfl, rfl⟩
  · intro v hv; rw [(nx.kl v).2]; exact h.lt v hv
  · intro v hv; rw [(nx.kl v).2]; exact h.l0 v hv
end
end Go.Proofs.YtlooaipipmiijaaGreat
