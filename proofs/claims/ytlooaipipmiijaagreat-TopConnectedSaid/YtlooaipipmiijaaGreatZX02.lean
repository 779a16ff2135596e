/- Several texts in one: LcB, LcC. -/
import Derived.Test.YtlooaipipmiijaaGreatZX01
namespace Go.Proofs.YtlooaipipmiijaaGreat
set_option linter.unusedVariables false
set_option linter.unusedSimpArgs false
theorem hang_at {N : NS} {i k : Nat} {s : Bool} (h : k ≠ i) : hangN N i s k i = (N i).setK s k := by
  unfold hangN
  split
  · exact uN_same N i _
  · rw [uN_ne _ _ (fun e => h e.symm)]; exact uN_same N i _
theorem hang_kid {N : NS} {i k : Nat} {s : Bool} (h : k ≠ i) (h0 : k ≠ 0) : hangN N i s k k = { N k with up := i } := by
  unfold hangN
  rw [if_neg h0, uN_same, uN_ne _ _ h]
theorem hang_ne {N : NS} {i k x : Nat} {s : Bool} (h : x ≠ i) (h0 : x ≠ k ∨ k = 0) : hangN N i s k x = N x := by
  unfold hangN
  split
  · exact uN_ne _ _ h
  · rename_i h1
    have h2 : x ≠ k := h0.resolve_right h1
    rw [uN_ne _ _ h2, uN_ne _ _ h]
theorem setK_kid (v : Nd) (s : Bool) (k : Nat) : (if s then (v.setK s k).k1 else (v.setK s k).k0) = k := by cases s <;> rfl
theorem setK_other (v : Nd) (s : Bool) (k : Nat) : (if (!s) then (v.setK s k).k1 else (v.setK s k).k0) = (if (!s) then v.k1 else v.k0) := by cases s <;> rfl
theorem setK_rest (v : Nd) (s : Bool) (k : Nat) : (v.setK s k).up = v.up ∧ (v.setK s k).fl = v.fl ∧ (v.setK s k).key = v.key ∧ (v.setK s k).sz = v.sz ∧ (v.setK s k).fst = v.fst ∧ (v.setK s k).lt = v.lt ∧ (v.setK s k).tot = v.tot := by cases s <;> exact ⟨rfl, rfl, rfl, rfl, rfl, rfl, rfl⟩
structure RotAt (N : NS) (s : Bool) (i p c g : Nat) : Prop where
  sd : sideN N i = some s
  up : (N i).up = p
  gu : (N p).up = g
  ck : kid N (!s) i = c
  i0 : i ≠ 0
  p0 : p ≠ 0
  ip : i ≠ p
  gi : g ≠ i
  gp : g ≠ p
  ci : c ≠ i
  cp : c ≠ p
  cg : c = 0 ∨ c ≠ g
theorem RotAt.g0 {N : NS} {s : Bool} {i p c g : Nat} (h : RotAt N s i p c g) {a : Bool} (ha : sideN N p = some a) : g ≠ 0 := by
  have := (side_some ha).1
  rw [h.gu] at this; exact this
theorem RotAt.one_i {N : NS} {s : Bool} {i p c g : Nat} (h : RotAt N s i p c g) : rot1 N i i = { N i with up := g } := by
  unfold rot1
  rw [h.up, h.gu]
  cases ha : sideN N p with
  | none => exact uN_same N i _
  | some a =>
    show hangN N g a i i = _
    exact hang_kid (fun e => h.gi e.symm) h.i0
theorem RotAt.one_g {N : NS} {s : Bool} {i p c g : Nat} (h : RotAt N s i p c g) {a : Bool} (ha : sideN N p = some a) : rot1 N i g = (N g).setK a i := by
  unfold rot1
  rw [h.up, h.gu, ha]
  exact hang_at (fun e => h.gi e.symm)
theorem RotAt.one_ne {N : NS} {s : Bool} {i p c g : Nat} (h : RotAt N s i p c g) {x : Nat} (h1 : x ≠ i) (h2 : x ≠ g ∨ sideN N p = none) : rot1 N i x = N x := by
  unfold rot1
  rw [h.up, h.gu]
  cases ha : sideN N p with
  | none => exact uN_ne _ _ h1
  | some a =>
    show hangN N g a i x = _
    refine hang_ne (h2.resolve_right (fun e => by rw [ha] at e; cases e)) (.inl h1)
theorem RotAt.kid1 {N : NS} {s : Bool} {i p c g : Nat} (h : RotAt N s i p c g) (b : Bool) : kid (rot1 N i) b i = kid N b i := by
  unfold kid; rw [h.one_i]
theorem RotAt.three {N : NS} {s : Bool} {i p c g : Nat} (h : RotAt N s i p c g) : rot3 N i = hangN (hangN (rot1 N i) p s c) i (!s) p := by
  unfold rot3
  rw [h.up, h.sd, Option.getD_some, h.kid1, h.ck]
theorem RotAt.at_i {N : NS} {s : Bool} {i p c g : Nat} (h : RotAt N s i p c g) : rot3 N i i = { (N i).setK (!s) p with up := g } := by
  rw [h.three, hang_at (fun e => h.ip e.symm), hang_ne h.ip (.inl (fun e => h.ci e.symm)), h.one_i]
  cases s <;> rfl
theorem RotAt.at_p {N : NS} {s : Bool} {i p c g : Nat} (h : RotAt N s i p c g) : rot3 N i p = { (N p).setK s c with up := i } := by
  rw [h.three, hang_kid (fun e => h.ip e.symm) h.p0, hang_at h.cp, h.one_ne (fun e => h.ip e.symm) (.inl (fun e => h.gp e.symm))]
theorem RotAt.at_c {N : NS} {s : Bool} {i p c g : Nat} (h : RotAt N s i p c g) (h0 : c ≠ 0) : rot3 N i c = { N c with up := p } := by
  rw [h.three, hang_ne h.ci (.inl h.cp), hang_kid h.cp h0, h.one_ne h.ci (.inl (h.cg.resolve_left h0))]
theorem RotAt.at_g {N : NS} {s : Bool} {i p c g : Nat} (h : RotAt N s i p c g) {a : Bool} (ha : sideN N p = some a) : rot3 N i g = (N g).setK a i := by
  have g0 := h.g0 ha
  have hc : g ≠ c ∨ c = 0 := by rcases h.cg with e | e; exact .inr e; exact .inl fun e2 => e e2.symm
  rw [h.three, hang_ne h.gi (.inl h.gp), hang_ne h.gp hc, h.one_g ha]
theorem RotAt.at_ne {N : NS} {s : Bool} {i p c g : Nat} (h : RotAt N s i p c g) {x : Nat} (h1 : x ≠ i) (h2 : x ≠ p) (h3 : x ≠ c ∨ c = 0) (h4 : x ≠ g ∨ sideN N p = none) : rot3 N i x = N x := by
  rw [h.three, hang_ne h1 (.inl h2), hang_ne h2 h3, h.one_ne h1 h4]
theorem frsh_rest (N : NS) (i : Nat) : (frsh N i).k0 = (N i).k0 ∧ (frsh N i).k1 = (N i).k1 ∧ (frsh N i).up = (N i).up ∧ (frsh N i).fl = (N i).fl ∧ (frsh N i).key = (N i).key ∧ (frsh N i).lt = (N i).lt := by
  unfold frsh addK
  split <;> split <;> exact ⟨rfl, rfl, rfl, rfl, rfl, rfl⟩
theorem ref_rest (N : NS) (i x : Nat) : (refN N i x).k0 = (N x).k0 ∧ (refN N i x).k1 = (N x).k1 ∧ (refN N i x).up = (N x).up ∧ (refN N i x).fl = (N x).fl ∧ (refN N i x).key = (N x).key ∧ (refN N i x).lt = (N x).lt := by
  unfold refN
  by_cases e : x = i
  · subst e; rw [uN_same]; exact frsh_rest N x
  · rw [uN_ne _ _ e]; exact ⟨rfl, rfl, rfl, rfl, rfl, rfl⟩
theorem ref_ne (N : NS) {i x : Nat} (h : x ≠ i) : refN N i x = N x := uN_ne _ _ h
theorem kid_ref (N : NS) (i : Nat) (s : Bool) (x : Nat) : kid (refN N i) s x = kid N s x := by
  obtain ⟨h1, h2, _⟩ := ref_rest N i x
  unfold kid; rw [h1, h2]
structure RotRes (N N' : NS) (s : Bool) (A : Sp) (i : Nat) (B : Sp) (p : Nat) (C : Sp) (g : Nat) : Prop where
  rp : RotP N i
  rep : Rep N' (nodeS s A i (nodeS s B p C)) g
  same : ∀ x, x ≠ i → x ≠ p → x ∉ B.els → (x ≠ g ∨ sideN N p = none) → N' x = N x
  atg : ∀ a, sideN N p = some a → N' g = (N g).setK a i
  kl : ∀ x, (N' x).key = (N x).key ∧ (N' x).lt = (N x).lt ∧ (N' x).fl = (N x).fl
  agg : Agg N' (nodeS s A i (nodeS s B p C))
  sq : sq N' (nodeS s A i (nodeS s B p C)) = sq N (nodeS s (nodeS s A i B) p C)
theorem rot_res {N : NS} {s : Bool} {A : Sp} {i : Nat} {B : Sp} {p : Nat} {C : Sp} {g : Nat} (h : Rep N (nodeS s (nodeS s A i B) p C) g) (hn : (nodeS s (nodeS s A i B) p C).els.Nodup) (hg : g ∉ (nodeS s (nodeS s A i B) p C).els)
    (ha : Agg N (nodeS s (nodeS s A i B) p C)) (hf : (N i).fl = false) (hfp : (N p).fl = false) (hlt : ∀ x, x ∈ (nodeS s (nodeS s A i B) p C).els → 0 ≤ (N x).lt) (hs : sumW N (nodeS s (nodeS s A i B) p C).els ≤ 4611686018427387904) :
    RotRes N (rotN N i) s A i B p C g := by
  obtain ⟨p0, hpu, hpk, hpo, hrt, hrC⟩ := nodeS_rep.1 h
  obtain ⟨i0, hiu, hik, hio, hrA, hrB⟩ := nodeS_rep.1 hrt
  rw [nodeS_root] at hpk
  obtain ⟨n1, n2, n3, n4, n5⟩ := nodeS_nodup.1 hn
  obtain ⟨m1, m2, m3, m4, m5⟩ := nodeS_nodup.1 n3
  have sd := side_kid h hn (by rw [nodeS_root]; exact i0)
  rw [nodeS_root] at sd
  rw [nodeS_mem] at n1
  rw [nodeS_mem, nodeS_mem] at hg
  simp only [not_or] at n1 hg
  obtain ⟨n1i, n1A, n1B⟩ := n1
  obtain ⟨hgp, ⟨hgi, hgA, hgB⟩, hgC⟩ := hg
  have nBC : ∀ x, x ∈ B.els → x ∉ C.els := fun x hx => n5 x (nodeS_mem.2 (.inr (.inr hx)))
  have nAC : ∀ x, x ∈ A.els → x ∉ C.els := fun x hx => n5 x (nodeS_mem.2 (.inr (.inl hx)))
  have niC : i ∉ C.els := n5 i (nodeS_mem.2 (.inl rfl))
  have hBm : B.root ≠ 0 → B.root ∈ B.els := root_mem
  have h00 := rep_nz h
  have R : RotAt N s i p B.root g := by
    refine ⟨sd.1, hiu, hpu, hio, i0, p0, fun e => n1i e.symm, hgi, hgp, fun e => ?_, fun e => ?_, ?_⟩
    · exact m2 (by rw [← e]; exact hBm (by rw [e]; exact i0))
    · exact n1B (by rw [← e]; exact hBm (by rw [e]; exact p0))
    · by_cases e : B.root = 0
      · exact .inl e
      · exact .inr fun e2 => hgB (by rw [← e2]; exact hBm e)
  have hAr : A.root ≠ i ∧ A.root ≠ p := by
    constructor
    · intro e; exact m1 (by rw [← e]; exact root_mem (by rw [e]; exact i0))
    · intro e; exact n1A (by rw [← e]; exact root_mem (by rw [e]; exact p0))
  have hCr : C.root ≠ i ∧ C.root ≠ p := by
    constructor
    · intro e; exact niC (by rw [← e]; exact root_mem (by rw [e]; exact i0))
    · intro e; exact n2 (by rw [← e]; exact root_mem (by rw [e]; exact p0))
  have kp : kid (rot3 N i) s p = B.root ∧ kid (rot3 N i) (!s) p = C.root := by
    unfold kid
    rw [R.at_p]
    constructor
    · exact setK_kid (N p) s B.root
    · rw [← hpo]; exact setK_other (N p) s B.root
  have ki : kid (rot3 N i) (!s) i = p ∧ kid (rot3 N i) s i = A.root := by
    unfold kid
    rw [R.at_i]
    constructor
    · exact setK_kid (N i) (!s) p
    · rw [← hik]
      have := setK_other (N i) (!s) p
      rw [Bool.not_not] at this
      exact this
  have ups : (rot3 N i i).up = g ∧ (rot3 N i p).up = i := by rw [R.at_i, R.at_p]; exact ⟨rfl, rfl⟩
  have kl3 : ∀ x, (rot3 N i x).key = (N x).key ∧ (rot3 N i x).lt = (N x).lt ∧ (rot3 N i x).fl = (N x).fl ∧ (rot3 N i x).sz = (N x).sz ∧ (rot3 N i x).tot = (N x).tot ∧ (rot3 N i x).fst = (N x).fst := by
    intro x
    by_cases e1 : x = i
    · subst e1; rw [R.at_i]; obtain ⟨a, b, c, d, e, f, g⟩ := setK_rest (N x) (!s) p; exact ⟨c, f, b, d, g, e⟩
    · by_cases e2 : x = p
      · subst e2; rw [R.at_p]; obtain ⟨a, b, c, d, e, f, g⟩ := setK_rest (N x) s B.root; exact ⟨c, f, b, d, g, e⟩
      · by_cases e3 : x = B.root ∧ B.root ≠ 0
        · obtain ⟨e3, e4⟩ := e3; subst e3; rw [R.at_c e4]; exact ⟨rfl, rfl, rfl, rfl, rfl, rfl⟩
        · have e3' : x ≠ B.root ∨ B.root = 0 := by
            by_cases h : B.root = 0
            · exact .inr h
            · exact .inl fun e => e3 ⟨e, h⟩
          cases hsp : sideN N p with
          | none => rw [R.at_ne e1 e2 e3' (.inr hsp)]; exact ⟨rfl, rfl, rfl, rfl, rfl, rfl⟩
          | some a =>
            by_cases e4 : x = g
            · subst e4; rw [R.at_g hsp]; obtain ⟨a, b, c, d, e, f, g⟩ := setK_rest (N x) a i; exact ⟨c, f, b, d, g, e⟩
            · rw [R.at_ne e1 e2 e3' (.inl e4)]; exact ⟨rfl, rfl, rfl, rfl, rfl, rfl⟩
  have klR : ∀ x, (rotN N i x).key = (N x).key ∧ (rotN N i x).lt = (N x).lt ∧ (rotN N i x).fl = (N x).fl := fun x => by
    obtain ⟨_, _, _, a1, a2, a3⟩ := ref_rest (refN (rot3 N i) (N i).up) i x
    obtain ⟨_, _, _, b1, b2, b3⟩ := ref_rest (rot3 N i) (N i).up x
    obtain ⟨c1, c2, c3, _⟩ := kl3 x
    exact ⟨a2.trans (b2.trans c1), a3.trans (b3.trans c2), a1.trans (b1.trans c3)⟩
  have ptr : ∀ x, (rotN N i x).k0 = (rot3 N i x).k0 ∧ (rotN N i x).k1 = (rot3 N i x).k1 ∧ (rotN N i x).up = (rot3 N i x).up := fun x => by
    obtain ⟨a1, a2, a3, _⟩ := ref_rest (refN (rot3 N i) (N i).up) i x
    obtain ⟨b1, b2, b3, _⟩ := ref_rest (rot3 N i) (N i).up x
    exact ⟨a1.trans b1, a2.trans b2, a3.trans b3⟩
  have kidR : ∀ b x, kid (rotN N i) b x = kid (rot3 N i) b x := fun b x => by unfold kid; rw [(ptr x).1, (ptr x).2.1]
  have same3 : ∀ x, x ≠ i → x ≠ p → x ∉ B.els → (x ≠ g ∨ sideN N p = none) → rot3 N i x = N x := fun x h1 h2 h3 h4 => by
    refine R.at_ne h1 h2 ?_ h4
    by_cases e : B.root = 0
    · exact .inr e
    · exact .inl fun e2 => h3 (by rw [e2]; exact hBm e)
  have hA3 : ∀ x, x ∈ A.els → rot3 N i x = N x := fun x hx => same3 x (fun e => m1 (e ▸ hx)) (fun e => n1A (e ▸ hx)) (m5 x hx) (.inl fun e => hgA (e ▸ hx))
  have hC3 : ∀ x, x ∈ C.els → rot3 N i x = N x := fun x hx => same3 x (fun e => niC (e ▸ hx)) (fun e => n2 (e ▸ hx)) (fun h => nBC x h hx) (.inl fun e => hgC (e ▸ hx))
  have hB3 : ∀ x, x ∈ B.els → x ≠ B.root → rot3 N i x = N x := fun x hx hr => R.at_ne (fun e => m2 (e ▸ hx)) (fun e => n1B (e ▸ hx)) (.inl hr) (.inl fun e => hgB (e ▸ hx))
  have rA3 : Rep (rot3 N i) A i := rep_congr hrA fun x hx => by rw [hA3 x hx]; exact ⟨rfl, rfl, rfl⟩
  have rC3 : Rep (rot3 N i) C p := rep_congr hrC fun x hx => by rw [hC3 x hx]; exact ⟨rfl, rfl, rfl⟩
  have rB3 : Rep (rot3 N i) B p := rep_up hrB m4 (fun x hx => by
      by_cases e : x = B.root
      · rw [e, R.at_c (by rw [← e]; exact h00 x (nodeS_mem.2 (.inr (.inl (nodeS_mem.2 (.inr (.inr hx)))))))]; exact ⟨rfl, rfl⟩
      · rw [hB3 x hx e]; exact ⟨rfl, rfl⟩) (fun x hx e => by rw [hB3 x hx e]) (fun h0 => by rw [R.at_c h0])
  obtain ⟨okp, agt, agC⟩ := nodeS_agg.1 ha
  obtain ⟨oki, agA, agB⟩ := nodeS_agg.1 agt
  have agA3 : Agg (rot3 N i) A := agg_congr agA fun x hx => by rw [hA3 x hx]; exact ⟨rfl, rfl, rfl, rfl, rfl⟩
  have agC3 : Agg (rot3 N i) C := agg_congr agC fun x hx => by rw [hC3 x hx]; exact ⟨rfl, rfl, rfl, rfl, rfl⟩
  have agB3 : Agg (rot3 N i) B := agg_congr agB fun x hx => by obtain ⟨a, b, c, d, e, f⟩ := kl3 x; exact ⟨d, e, f, a, b⟩
  have hper : (nodeS s (nodeS s A i B) p C).els.Perm (i :: (A.els ++ (p :: (B.els ++ C.els)))) := by
    refine (nodeS_perm _ _ _ _).trans (((List.Perm.append_right C.els (nodeS_perm s A i B)).cons p).trans ?_)
    show (p :: (i :: (A.els ++ B.els) ++ C.els)).Perm _
    rw [List.cons_append, List.append_assoc]
    refine (List.Perm.swap i p _).trans (List.Perm.cons i ?_)
    exact List.perm_middle.symm
  have hsum : sumW N (i :: (A.els ++ (p :: (B.els ++ C.els)))) ≤ 4611686018427387904 := by rw [← sumW_perm hper]; exact hs
  have lt0 : ∀ x, x ∈ i :: (A.els ++ (p :: (B.els ++ C.els))) → 0 ≤ (N x).lt := fun x hx => hlt x (hper.mem_iff.2 hx)
  have gA := sumW_ge (N := N) (L := A.els) fun x hx => lt0 x (.tail _ (List.mem_append.2 (.inl hx)))
  have hi0 := lt0 i (.head _)
  have hsum2 : sumW N (p :: (B.els ++ C.els)) ≤ 4611686018427387904 := by
    rw [sumW_cons, sumW_append] at hsum
    omega
  have okP : Ok (refN (rot3 N i) p) p (p :: (B.els ++ C.els)) := by
    have lt3 : ∀ x, x ∈ p :: (B.els ++ C.els) → 0 ≤ (rot3 N i x).lt := fun x hx => by rw [(kl3 x).2.1]; exact lt0 x (.tail _ (List.mem_append.2 (.inr hx)))
    have sm : sumW (rot3 N i) (p :: (B.els ++ C.els)) ≤ 4611686018427387904 := by rw [sumW_congr fun x _ => (kl3 x).2.1]; exact hsum2
    cases s with
    | false => exact frsh_ok rB3 rC3 agB3 agC3 kp.1 kp.2 lt3 sm n1B n2
    | true =>
      have e : (p :: (C.els ++ B.els)).Perm (p :: (B.els ++ C.els)) := List.Perm.cons p List.perm_append_comm
      exact (frsh_ok rC3 rB3 agC3 agB3 kp.2 kp.1 (fun x hx => lt3 x (e.mem_iff.1 hx)) (by rw [sumW_perm e]; exact sm) n2 n1B).perm e
  have rfp : ∀ x, x ≠ p → refN (rot3 N i) p x = rot3 N i x := fun x hx => ref_ne _ hx
  have klp : ∀ x, (refN (rot3 N i) p x).key = (N x).key ∧ (refN (rot3 N i) p x).lt = (N x).lt := fun x => by
    obtain ⟨_, _, _, _, b2, b3⟩ := ref_rest (rot3 N i) p x
    exact ⟨b2.trans (kl3 x).1, b3.trans (kl3 x).2.1⟩
  have rA4 : Rep (refN (rot3 N i) p) A i := rep_congr rA3 fun x _ => by obtain ⟨a, b, c, _⟩ := ref_rest (rot3 N i) p x; exact ⟨a, b, c⟩
  have rB4 : Rep (refN (rot3 N i) p) B p := rep_congr rB3 fun x _ => by obtain ⟨a, b, c, _⟩ := ref_rest (rot3 N i) p x; exact ⟨a, b, c⟩
  have rC4 : Rep (refN (rot3 N i) p) C p := rep_congr rC3 fun x _ => by obtain ⟨a, b, c, _⟩ := ref_rest (rot3 N i) p x; exact ⟨a, b, c⟩
  have up4 : (refN (rot3 N i) p p).up = i := (ref_rest (rot3 N i) p p).2.2.1.trans ups.2
  have rP4 : Rep (refN (rot3 N i) p) (nodeS s B p C) i := nodeS_rep.2 ⟨p0, up4, by rw [kid_ref]; exact kp.1, by rw [kid_ref]; exact kp.2, rB4, rC4⟩
  have ag4 : ∀ {t : Sp}, Agg (rot3 N i) t → p ∉ t.els → Agg (refN (rot3 N i) p) t := fun {t} h hp => agg_congr h fun x hx => by rw [rfp x (fun e => hp (e ▸ hx))]; exact ⟨rfl, rfl, rfl, rfl, rfl⟩
  have aP4 : Agg (refN (rot3 N i) p) (nodeS s B p C) := nodeS_agg.2 ⟨okP, ag4 agB3 n1B, ag4 agC3 n2⟩
  have ePm : (nodeS s B p C).els.Perm (p :: (B.els ++ C.els)) := nodeS_perm s B p C
  have iP : i ∉ (nodeS s B p C).els := fun h => by
    rcases nodeS_mem.1 h with h | h | h
    · exact n1i h.symm
    · exact m2 h
    · exact niC h
  have iA : i ∉ A.els := m1
  have okI : Ok (refN (refN (rot3 N i) p) i) i (i :: (A.els ++ (nodeS s B p C).els)) := by
    have e2 : (i :: (A.els ++ (nodeS s B p C).els)).Perm (i :: (A.els ++ (p :: (B.els ++ C.els)))) := List.Perm.cons i (List.Perm.append_left _ ePm)
    have lt3 : ∀ x, x ∈ i :: (A.els ++ (nodeS s B p C).els) → 0 ≤ (refN (rot3 N i) p x).lt := fun x hx => by rw [(klp x).2]; exact lt0 x (e2.mem_iff.1 hx)
    have sm : sumW (refN (rot3 N i) p) (i :: (A.els ++ (nodeS s B p C).els)) ≤ 4611686018427387904 := by rw [sumW_congr fun x _ => (klp x).2, sumW_perm e2]; exact hsum
    have k4 : kid (refN (rot3 N i) p) s i = A.root ∧ kid (refN (rot3 N i) p) (!s) i = (nodeS s B p C).root := by rw [kid_ref, kid_ref, nodeS_root]; exact ⟨ki.2, ki.1⟩
    cases s with
    | false => exact frsh_ok rA4 rP4 (ag4 agA3 n1A) aP4 k4.1 k4.2 lt3 sm iA iP
    | true =>
      have e : (i :: ((nodeS true B p C).els ++ A.els)).Perm (i :: (A.els ++ (nodeS true B p C).els)) := List.Perm.cons i List.perm_append_comm
      exact (frsh_ok rP4 rA4 aP4 (ag4 agA3 n1A) k4.2 k4.1 (fun x hx => lt3 x (e.mem_iff.1 hx)) (by rw [sumW_perm e]; exact sm) iP iA).perm e
  have eR : rotN N i = refN (refN (rot3 N i) p) i := by unfold rotN; rw [hiu]
  have rfi : ∀ x, x ≠ i → refN (refN (rot3 N i) p) i x = refN (rot3 N i) p x := fun x hx => ref_ne _ hx
  refine ⟨⟨i0, by rw [hiu]; exact p0, ?_, ?_, ?_, ?_⟩, ?_, ?_, ?_, klR, ?_, ?_⟩
  · rw [hiu]
    cases s
    · have := kp.1; show kid (rot3 N i) false p ≠ p; rw [this]; exact R.cp
    · have := kp.2; show kid (rot3 N i) false p ≠ p; rw [show (false : Bool) = !true from rfl, this]; exact hCr.2
  · rw [hiu]
    cases s
    · have := kp.2; show kid (rot3 N i) true p ≠ p; rw [show (true : Bool) = !false from rfl, this]; exact hCr.2
    · have := kp.1; show kid (rot3 N i) true p ≠ p; rw [this]; exact R.cp
  · rw [hiu]
    have : kid (refN (rot3 N i) p) false i = kid (rot3 N i) false i := kid_ref _ _ _ _
    show kid (refN (rot3 N i) p) false i ≠ i
    rw [this]
    cases s
    · rw [ki.2]; exact hAr.1
    · rw [show (false : Bool) = !true from rfl, ki.1]; exact fun e => R.ip e.symm
  · rw [hiu]
    have : kid (refN (rot3 N i) p) true i = kid (rot3 N i) true i := kid_ref _ _ _ _
    show kid (refN (rot3 N i) p) true i ≠ i
    rw [this]
    cases s
    · rw [show (true : Bool) = !false from rfl, ki.1]; exact fun e => R.ip e.symm
    · rw [ki.2]; exact hAr.1
  · refine nodeS_rep.2 ⟨i0, (ptr i).2.2.trans ups.1, by rw [kidR]; exact ki.2, by rw [kidR, nodeS_root]; exact ki.1, ?_, ?_⟩
    · exact rep_congr rA3 fun x _ => ptr x
    · refine nodeS_rep.2 ⟨p0, (ptr p).2.2.trans ups.2, by rw [kidR]; exact kp.1, by rw [kidR]; exact kp.2, rep_congr rB3 fun x _ => ptr x, rep_congr rC3 fun x _ => ptr x⟩
  · intro x h1 h2 h3 h4
    rw [eR, rfi x h1, rfp x h2]
    exact same3 x h1 h2 h3 h4
  · intro a hsa
    rw [eR, rfi g hgi, rfp g hgp]
    exact R.at_g hsa
  · rw [eR]
    refine nodeS_agg.2 ⟨okI, ?_, ?_⟩
    · exact agg_congr (ag4 agA3 n1A) fun x hx => by rw [rfi x (fun e => m1 (e ▸ hx))]; exact ⟨rfl, rfl, rfl, rfl, rfl⟩
    · exact agg_congr aP4 fun x hx => by rw [rfi x (fun e => iP (e ▸ hx))]; exact ⟨rfl, rfl, rfl, rfl, rfl⟩
  · have f1 : (rotN N i i).fl = false := by rw [(klR i).2.2]; exact hf
    have f2 : (rotN N i p).fl = false := by rw [(klR p).2.2]; exact hfp
    rw [nodeS_sq f1, nodeS_sq f2, nodeS_sq hfp, nodeS_sq hf]
    rw [sq_congr (t := A) fun x _ => (klR x).2.2, sq_congr (t := B) fun x _ => (klR x).2.2, sq_congr (t := C) fun x _ => (klR x).2.2]
    cases s <;> simp
end Go.Proofs.YtlooaipipmiijaaGreat

namespace Go.Proofs.YtlooaipipmiijaaGreat
set_option linter.unusedVariables false
set_option linter.unusedSimpArgs false
abbrev Cx := List (Bool × Nat × Sp)
def plug : Sp → Cx → Sp
  | t, [] => t
  | t, (s, p, b) :: c => plug (nodeS s t p b) c
def topUp : Cx → Nat → Nat
  | [], u => u
  | (_, p, _) :: _, _ => p
def cels : Cx → List Nat
  | [] => []
  | (_, p, b) :: c => p :: (b.els ++ cels c)
theorem plug_perm : ∀ (c : Cx) (t : Sp), (plug t c).els.Perm (t.els ++ cels c)
  | [], t => by show t.els.Perm (t.els ++ []); rw [List.append_nil]
  | (s, p, b) :: c, t => by
    refine (plug_perm c (nodeS s t p b)).trans (((nodeS_perm s t p b).append_right _).trans ?_)
    show (p :: (t.els ++ b.els) ++ cels c).Perm (t.els ++ p :: (b.els ++ cels c))
    rw [List.cons_append, List.append_assoc]
    exact List.perm_middle.symm
theorem plug_mem {c : Cx} {t : Sp} {x : Nat} : x ∈ (plug t c).els ↔ x ∈ t.els ∨ x ∈ cels c := by rw [(plug_perm c t).mem_iff, List.mem_append]
theorem plug_nodup {c : Cx} {t : Sp} : (plug t c).els.Nodup ↔ t.els.Nodup ∧ (cels c).Nodup ∧ ∀ x, x ∈ t.els → x ∉ cels c := by
  rw [(plug_perm c t).nodup_iff, List.nodup_append]
  exact ⟨fun ⟨a, b, h⟩ => ⟨a, b, fun x hx hy => h x hx x hy rfl⟩, fun ⟨a, b, h⟩ => ⟨a, b, fun x hx y hy e => h x hx (e ▸ hy)⟩⟩
theorem plug_in {N : NS} {u : Nat} : ∀ (c : Cx) {t : Sp}, Rep N (plug t c) u → Rep N t (topUp c u)
  | [], _, h => h
  | (s, p, b) :: c, t, h => (nodeS_rep.1 (plug_in c h)).2.2.2.2.1
theorem plug_ain {N : NS} : ∀ (c : Cx) {t : Sp}, Agg N (plug t c) → Agg N t
  | [], _, h => h
  | (s, p, b) :: c, t, h => (nodeS_agg.1 (plug_ain c h)).2.1
theorem plug_same {N N' : NS} {u : Nat} : ∀ (c : Cx) {t t' : Sp}, Rep N (plug t c) u → Rep N' t' (topUp c u) → t'.root = t.root → (∀ x, x ∈ cels c → (N' x).k0 = (N x).k0 ∧ (N' x).k1 = (N x).k1 ∧ (N' x).up = (N x).up) → Rep N' (plug t' c) u
  | [], _, _, _, h, _, _ => h
  | (s, p, b) :: c, t, t', h, h', e, k => by
    obtain ⟨p0, h1, h2, h3, h4, h5⟩ := nodeS_rep.1 (plug_in c h)
    obtain ⟨k1, k2, k3⟩ := k p (.head _)
    refine plug_same c (t := nodeS s t p b) h (nodeS_rep.2 ⟨p0, by rw [k3]; exact h1, ?_, ?_, h', rep_congr h5 fun x hx => k x (.tail _ (List.mem_append.2 (.inl hx)))⟩) (by rw [nodeS_root, nodeS_root]) (fun x hx => k x (.tail _ (List.mem_append.2 (.inr hx))))
    · rw [e, ← h2]; unfold kid; rw [k1, k2]
    · rw [← h3]; unfold kid; rw [k1, k2]
theorem plug_new {N N' : NS} {u : Nat} {a : Bool} {g : Nat} {b : Sp} {c : Cx} {t t' : Sp} (h : Rep N (plug t ((a, g, b) :: c)) u) (h' : Rep N' t' g) (e : N' g = (N g).setK a t'.root) (k : ∀ x, x ∈ b.els ∨ x ∈ cels c → N' x = N x) : Rep N' (plug t' ((a, g, b) :: c)) u := by
  obtain ⟨p0, h1, h2, h3, h4, h5⟩ := nodeS_rep.1 (plug_in c (t := nodeS a t g b) h)
  refine plug_same c (t := nodeS a t g b) h (nodeS_rep.2 ⟨p0, by rw [e, (setK_rest _ _ _).1]; exact h1, ?_, ?_, h', rep_congr h5 fun x hx => by rw [k x (.inl hx)]; exact ⟨rfl, rfl, rfl⟩⟩) (by rw [nodeS_root, nodeS_root]) (fun x hx => by rw [k x (.inr hx)]; exact ⟨rfl, rfl, rfl⟩)
  · unfold kid; rw [e]; exact setK_kid _ _ _
  · rw [← h3]; unfold kid; rw [e]; exact setK_other _ _ _
theorem plug_agg {N N' : NS} (kl : ∀ x, (N' x).key = (N x).key ∧ (N' x).lt = (N x).lt) : ∀ (c : Cx) {t t' : Sp}, Agg N (plug t c) → Agg N' t' → t'.els.Perm t.els → (∀ x, x ∈ cels c → (N' x).sz = (N x).sz ∧ (N' x).tot = (N x).tot ∧ (N' x).fst = (N x).fst) → Agg N' (plug t' c)
  | [], _, _, _, h, _, _ => h
  | (s, p, b) :: c, t, t', h, h', e, k => by
    obtain ⟨a1, a2, a3⟩ := nodeS_agg.1 (plug_ain c (t := nodeS s t p b) h)
    obtain ⟨k1, k2, k3⟩ := k p (.head _)
    refine plug_agg kl c (t := nodeS s t p b) h (nodeS_agg.2 ⟨?_, h', ?_⟩) ?_ fun x hx => k x (.tail _ (List.mem_append.2 (.inr hx)))
    · exact (a1.perm (List.Perm.cons p (List.Perm.append_right _ e.symm))).congr k1 k2 k3 fun x _ => kl x
    · exact agg_congr a3 fun x hx => by obtain ⟨j1, j2, j3⟩ := k x (.tail _ (List.mem_append.2 (.inl hx))); exact ⟨j1, j2, j3, kl x⟩
    · exact (nodeS_perm s t' p b).trans ((List.Perm.cons p (List.Perm.append_right _ e)).trans (nodeS_perm s t p b).symm)
theorem nodeS_sq2 {N N' : NS} {s : Bool} {t t' : Sp} {p : Nat} {b : Sp} (h : (N' p).fl = (N p).fl) (h1 : sq N' t' = sq N t) (h2 : sq N' b = sq N b) : sq N' (nodeS s t' p b) = sq N (nodeS s t p b) := by
  cases s <;> (unfold nodeS; simp only [sq, h, h1, h2, if_true, if_false, Bool.false_eq_true])
theorem plug_sq {N N' : NS} : ∀ (c : Cx) {t t' : Sp}, sq N' t' = sq N t → (∀ x, x ∈ cels c → (N' x).fl = (N x).fl) → sq N' (plug t' c) = sq N (plug t c)
  | [], _, _, h, _ => h
  | (s, p, b) :: c, t, t', h, k => plug_sq c (nodeS_sq2 (k p (.head _)) h (sq_congr fun x hx => k x (.tail _ (List.mem_append.2 (.inl hx))))) fun x hx => k x (.tail _ (List.mem_append.2 (.inr hx)))
theorem plug_app (s : Bool) (p : Nat) (b : Sp) : ∀ (c : Cx) (t : Sp), plug t (c ++ [(s, p, b)]) = nodeS s (plug t c) p b
  | [], t => rfl
  | (a, g, d) :: c, t => plug_app s p b c (nodeS a t g d)
structure St (N : NS) (t : Sp) (c : Cx) (u : Nat) : Prop where
  rep : Rep N (plug t c) u
  nod : (plug t c).els.Nodup
  un : u ∉ (plug t c).els
  ro : u = 0 ∨ (N u).k0 ∉ (plug t c).els ∧ (N u).k1 ∉ (plug t c).els
  agg : Agg N (plug t c)
  lt : ∀ x, x ∈ (plug t c).els → 0 ≤ (N x).lt
  sum : sumW N (plug t c).els ≤ 4611686018427387904
theorem St.as {N : NS} {t t' : Sp} {c c' : Cx} {u : Nat} (h : St N t c u) (e : plug t c = plug t' c') : St N t' c' u := ⟨e ▸ h.rep, e ▸ h.nod, e ▸ h.un, e ▸ h.ro, e ▸ h.agg, e ▸ h.lt, e ▸ h.sum⟩
structure Nxt (N : NS) (T : Sp) (N' : NS) (T' : Sp) : Prop where
  per : T'.els.Perm T.els
  sq : sq N' T' = sq N T
  kl : ∀ x, (N' x).key = (N x).key ∧ (N' x).lt = (N x).lt
  out : ∀ x, x ∉ T.els → N' x = N x
theorem Nxt.refl (N : NS) (T : Sp) : Nxt N T N T := ⟨List.Perm.refl _, rfl, fun _ => ⟨rfl, rfl⟩, fun _ _ => rfl⟩
theorem Nxt.trans {N N' N2 : NS} {T T' T2 : Sp} (h : Nxt N T N' T') (k : Nxt N' T' N2 T2) : Nxt N T N2 T2 :=
  ⟨k.per.trans h.per, k.sq.trans h.sq, fun x => ⟨(k.kl x).1.trans (h.kl x).1, (k.kl x).2.trans (h.kl x).2⟩, fun x hx => (k.out x fun hy => hx (h.per.mem_iff.1 hy)).trans (h.out x hx)⟩
theorem St.side {N : NS} {s : Bool} {t : Sp} {p : Nat} {b : Sp} {c : Cx} {u : Nat} (h : St N t ((s, p, b) :: c) u) (ht : t.root ≠ 0) : sideN N t.root = some s ∧ (N t.root).up = p := by
  have h1 := plug_in c (t := nodeS s t p b) h.rep
  exact side_kid h1 (plug_nodup.1 (show (plug (nodeS s t p b) c).els.Nodup from h.nod)).1 ht
theorem St.side0 {N : NS} {t : Sp} {u : Nat} (h : St N t [] u) (ht : t.root ≠ 0) : sideN N t.root = none := by
  have hr : Rep N t u := h.rep
  have hm : t.root ∈ (plug t []).els := root_mem ht
  refine side_root (u := u) ?_ (h.ro.imp id fun ⟨h1, h2⟩ => ⟨fun e => h1 (e ▸ hm), fun e => h2 (e ▸ hm)⟩)
  cases t with
  | nil => exact absurd rfl ht
  | node l i r => exact hr.2.1
theorem rot_in {N : NS} {s : Bool} {A : Sp} {i : Nat} {B : Sp} {p : Nat} {C : Sp} {c : Cx} {u : Nat} (h : St N (nodeS s (nodeS s A i B) p C) c u) (hf : (N i).fl = false) (hfp : (N p).fl = false) :
    RotP N i ∧ St (rotN N i) (nodeS s A i (nodeS s B p C)) c u ∧ Nxt N (plug (nodeS s (nodeS s A i B) p C) c) (rotN N i) (plug (nodeS s A i (nodeS s B p C)) c) ∧ ∀ x, (rotN N i x).fl = (N x).fl := by
  have hrep := plug_in c h.rep
  obtain ⟨n1, n2, n3⟩ := plug_nodup.1 h.nod
  have hlt : ∀ x, x ∈ (nodeS s (nodeS s A i B) p C).els → 0 ≤ (N x).lt := fun x hx => h.lt x (plug_mem.2 (.inl hx))
  have hsum : sumW N (nodeS s (nodeS s A i B) p C).els ≤ 4611686018427387904 := by
    have h1 := h.sum
    rw [sumW_perm (plug_perm c _), sumW_append] at h1
    have h2 := sumW_ge (N := N) (L := cels c) fun x hx => h.lt x (plug_mem.2 (.inr hx))
    omega
  have hg : topUp c u ∉ (nodeS s (nodeS s A i B) p C).els := by
    cases c with
    | nil => exact h.un
    | cons e c => obtain ⟨a, g, d⟩ := e; exact fun hm => n3 _ hm (.head _)
  have R := rot_res hrep n1 hg (plug_ain c h.agg) hf hfp hlt hsum
  have hp0 : p ≠ 0 := (nodeS_rep.1 hrep).1
  have hpe : (nodeS s A i (nodeS s B p C)).els.Perm (nodeS s (nodeS s A i B) p C).els := by
    refine (nodeS_perm _ _ _ _).trans (((List.Perm.append_left _ (nodeS_perm s B p C)).cons i).trans ?_)
    refine List.Perm.trans ?_ (nodeS_perm _ _ _ _).symm
    refine List.Perm.trans ?_ (((List.Perm.append_right C.els (nodeS_perm s A i B)).cons p)).symm
    rw [List.cons_append, List.append_assoc]
    refine List.Perm.trans (List.Perm.cons i List.perm_middle) (List.Perm.swap p i _)
  have hpl : (plug (nodeS s A i (nodeS s B p C)) c).els.Perm (plug (nodeS s (nodeS s A i B) p C) c).els :=
    (plug_perm c _).trans ((List.Perm.append_right _ hpe).trans (plug_perm c _).symm)
  have hsame : ∀ x, x ∉ (nodeS s (nodeS s A i B) p C).els → (x ≠ topUp c u ∨ sideN N p = none) → rotN N i x = N x := fun x hx h4 =>
    R.same x (fun e => hx (nodeS_mem.2 (.inr (.inl (nodeS_mem.2 (.inl e)))))) (fun e => hx (nodeS_mem.2 (.inl e))) (fun hb => hx (nodeS_mem.2 (.inr (.inl (nodeS_mem.2 (.inr (.inr hb))))))) h4
  have hkl : ∀ x, (rotN N i x).key = (N x).key ∧ (rotN N i x).lt = (N x).lt := fun x => ⟨(R.kl x).1, (R.kl x).2.1⟩
  have hout : ∀ x, x ∉ (plug (nodeS s (nodeS s A i B) p C) c).els → rotN N i x = N x := by
    intro x hx
    have h1 : x ∉ (nodeS s (nodeS s A i B) p C).els := fun hm => hx (plug_mem.2 (.inl hm))
    cases c with
    | nil =>
      refine hsame x h1 (.inr ?_)
      have := St.side0 h (by rw [nodeS_root]; exact hp0)
      rw [nodeS_root] at this; exact this
    | cons e c =>
      obtain ⟨a, g, d⟩ := e
      exact hsame x h1 (.inl fun e => hx (plug_mem.2 (.inr (by rw [e]; exact .head _))))
  have hc3 : ∀ x, x ∈ cels c → (rotN N i x).sz = (N x).sz ∧ (rotN N i x).tot = (N x).tot ∧ (rotN N i x).fst = (N x).fst := by
    intro x hx
    have h1 : x ∉ (nodeS s (nodeS s A i B) p C).els := fun hm => n3 x hm hx
    cases c with
    | nil => exact absurd hx List.not_mem_nil
    | cons e c =>
      obtain ⟨a, g, d⟩ := e
      by_cases e : x = g
      · have hs := St.side h (by rw [nodeS_root]; exact hp0)
        rw [nodeS_root] at hs
        have hg2 : rotN N i g = (N g).setK a i := R.atg a hs.1
        rw [e, hg2]
        obtain ⟨_, _, _, k1, k2, _, k3⟩ := setK_rest (N g) a i
        exact ⟨k1, k3, k2⟩
      · rw [hsame x h1 (.inl e)]; exact ⟨rfl, rfl, rfl⟩
  have hrep' : Rep (rotN N i) (plug (nodeS s A i (nodeS s B p C)) c) u := by
    cases c with
    | nil => exact R.rep
    | cons e c =>
      obtain ⟨a, g, d⟩ := e
      have hs := St.side h (by rw [nodeS_root]; exact hp0)
      rw [nodeS_root] at hs
      have hnc : (cels ((a, g, d) :: c)).Nodup := n2
      obtain ⟨g1, g2⟩ := List.nodup_cons.1 hnc
      refine plug_new h.rep R.rep (by rw [nodeS_root]; exact R.atg a hs.1) fun x hx => ?_
      have hm : x ∈ d.els ++ cels c := List.mem_append.2 hx
      exact hsame x (fun hm2 => n3 x hm2 (.tail _ hm)) (.inl fun e => g1 (by rw [← show x = g from e]; exact hm))
  have hu := hout u h.un
  refine ⟨R.rp, ⟨hrep', hpl.nodup_iff.2 h.nod, fun hm => h.un (hpl.mem_iff.1 hm), ?_, plug_agg hkl c h.agg R.agg hpe hc3, fun x hx => by rw [(hkl x).2]; exact h.lt x (hpl.mem_iff.1 hx), by rw [sumW_congr fun x _ => (hkl x).2, sumW_perm hpl]; exact h.sum⟩, ⟨hpl, plug_sq c R.sq fun x _ => (R.kl x).2.2, hkl, hout⟩, fun x => (R.kl x).2.2⟩
  rw [hu]
  exact h.ro.imp id fun ⟨h1, h2⟩ => ⟨fun hm => h1 (hpl.mem_iff.1 hm), fun hm => h2 (hpl.mem_iff.1 hm)⟩
inductive SpinR : Nat → NS → Nat → NS → Prop
  | done {N : NS} {i : Nat} (h : sideN N i = none) : SpinR 0 N i N
  | one {m : Nat} {N N' : NS} {i : Nat} {s : Bool} (h : sideN N i = some s) (h1 : sideN N (N i).up = none) (r : RotP N i) (k : SpinR m (rotN N i) i N') : SpinR (m + 1) N i N'
  | zig {m : Nat} {N N' : NS} {i : Nat} {s : Bool} (h : sideN N i = some s) (h1 : sideN N (N i).up = some s) (r : RotP N (N i).up) (r2 : RotP (rotN N (N i).up) i) (k : SpinR m (rotN (rotN N (N i).up) i) i N') : SpinR (m + 1) N i N'
  | zag {m : Nat} {N N' : NS} {i : Nat} {s a : Bool} (h : sideN N i = some s) (h1 : sideN N (N i).up = some a) (hne : s ≠ a) (r : RotP N i) (r2 : RotP (rotN N i) i) (k : SpinR m (rotN (rotN N i) i) i N') : SpinR (m + 1) N i N'
theorem node_as (s : Bool) (A : Sp) (i : Nat) (B : Sp) : ∃ A' B', Sp.node A i B = nodeS s A' i B' := by cases s; exact ⟨A, B, rfl⟩; exact ⟨B, A, rfl⟩
theorem nodeS_as (s : Bool) (A : Sp) (i : Nat) (B : Sp) : ∃ A' B', nodeS s A i B = Sp.node A' i B' := by cases s; exact ⟨A, B, rfl⟩; exact ⟨B, A, rfl⟩
theorem spin_ok (i u : Nat) : ∀ (m : Nat) (c : Cx) (N : NS) (A B : Sp), c.length ≤ m → St N (.node A i B) c u → (N i).fl = false → (∀ e, e ∈ c → (N e.2.1).fl = false) →
    ∃ k N' A' B', SpinR k N i N' ∧ St N' (.node A' i B') [] u ∧ Nxt N (plug (.node A i B) c) N' (.node A' i B') ∧ (N' i).fl = false := by
  intro m
  induction m with
  | zero =>
    intro c N A B hm h hf hc
    have e : c = [] := List.length_eq_zero_iff.1 (by omega)
    subst e
    exact ⟨0, N, A, B, .done (St.side0 h (h.rep.1)), h, Nxt.refl _ _, hf⟩
  | succ m ih =>
    intro c N A B hm h hf hc
    have i0 : i ≠ 0 := (plug_in c h.rep).1
    match c, hm, h, hc with
    | [], _, h, _ => exact ⟨0, N, A, B, .done (St.side0 h i0), h, Nxt.refl _ _, hf⟩
    | [(s, p, C)], _, h, hc =>
      obtain ⟨A1, B1, e1⟩ := node_as s A i B
      have sd := St.side h i0
      have hp := hc _ (.head _)
      have hcx : plug (.node A i B) [(s, p, C)] = plug (nodeS s (nodeS s A1 i B1) p C) [] := by rw [e1]; rfl
      have h' : St N (nodeS s (nodeS s A1 i B1) p C) [] u := h.as hcx
      obtain ⟨r, st, nx, fl⟩ := rot_in h' hf hp
      obtain ⟨A2, B2, e2⟩ := nodeS_as s A1 i (nodeS s B1 p C)
      rw [e2] at st nx
      have sp : sideN N (N i).up = none := by
        rw [show (N i).up = p from sd.2]
        have := St.side0 h' (by rw [nodeS_root]; exact (nodeS_rep.1 h'.rep).1)
        rw [nodeS_root] at this; exact this
      refine ⟨1, rotN N i, A2, B2, .one sd.1 sp r (.done (St.side0 st i0)), st, ?_, by rw [fl]; exact hf⟩
      rw [hcx]; exact nx
    | (s, p, C) :: (a, g, D) :: c, hm, h, hc =>
      obtain ⟨A1, B1, e1⟩ := node_as s A i B
      have sd := St.side h i0
      have hp := hc _ (.head _)
      have hgf := hc _ (.tail _ (.head _))
      have hcx : plug (.node A i B) ((s, p, C) :: (a, g, D) :: c) = plug (nodeS s (nodeS s A1 i B1) p C) ((a, g, D) :: c) := by rw [e1]; rfl
      have h' : St N (nodeS s (nodeS s A1 i B1) p C) ((a, g, D) :: c) u := h.as hcx
      have hup : (N i).up = p := sd.2
      have p0 : p ≠ 0 := (nodeS_rep.1 (plug_in _ h'.rep)).1
      have sp : sideN N p = some a := by
        have := (St.side h' (by rw [nodeS_root]; exact p0)).1
        rw [nodeS_root] at this; exact this
      have hlen : c.length ≤ m := by simp at hm; omega
      have i00 : sideN N i = some s := sd.1
      by_cases hsa : s = a
      · subst hsa
        have h2 : St N (nodeS s (nodeS s (nodeS s A1 i B1) p C) g D) c u := h'.as rfl
        obtain ⟨r, st, nx, fl⟩ := rot_in h2 hp hgf
        have fi : (rotN N p i).fl = false := by rw [fl]; exact hf
        have fp : (rotN N p p).fl = false := by rw [fl]; exact hp
        obtain ⟨r2, st2, nx2, fl2⟩ := rot_in st fi fp
        obtain ⟨A2, B2, e2⟩ := nodeS_as s A1 i (nodeS s B1 p (nodeS s C g D))
        rw [e2] at st2 nx2
        obtain ⟨k, N', A', B', hk, hst, hnx, hfl⟩ := ih c _ A2 B2 hlen st2 (by rw [fl2]; exact fi) (fun e he => by rw [fl2, fl]; exact hc e (.tail _ (.tail _ he)))
        refine ⟨k + 1, N', A', B', .zig i00 (by rw [hup]; exact sp) (by rw [hup]; exact r) (by rw [hup]; exact r2) (by rw [hup]; exact hk), hst, ?_, hfl⟩
        rw [hcx]; exact (nx.trans nx2).trans hnx
      · obtain ⟨r, st, nx, fl⟩ := rot_in h' hf hp
        have fi : (rotN N i i).fl = false := by rw [fl]; exact hf
        have fg : (rotN N i g).fl = false := by rw [fl]; exact hgf
        obtain ⟨A2, B2, e2⟩ := nodeS_as s A1 i (nodeS s B1 p C)
        obtain ⟨A3, B3, e3⟩ := node_as a A2 i B2
        rw [e2, e3] at st nx
        have st' : St (rotN N i) (nodeS a (nodeS a A3 i B3) g D) c u := st.as rfl
        obtain ⟨r2, st2, nx2, fl2⟩ := rot_in st' fi fg
        obtain ⟨A4, B4, e4⟩ := nodeS_as a A3 i (nodeS a B3 g D)
        rw [e4] at st2 nx2
        obtain ⟨k, N', A', B', hk, hst, hnx, hfl⟩ := ih c _ A4 B4 hlen st2 (by rw [fl2]; exact fi) (fun e he => by rw [fl2, fl]; exact hc e (.tail _ (.tail _ he)))
        refine ⟨k + 1, N', A', B', .zag i00 (by rw [hup]; exact sp) hsa r r2 hk, hst, ?_, hfl⟩
        rw [hcx]; exact (nx.trans nx2).trans hnx
end Go.Proofs.YtlooaipipmiijaaGreat
