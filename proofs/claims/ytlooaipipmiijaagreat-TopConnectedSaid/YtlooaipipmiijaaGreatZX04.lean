/- Several texts in one: InP, Whole, HeapP. -/
import Derived.Test.YtlooaipipmiijaaGreatZX01
import Derived.Test.YtlooaipipmiijaaGreatZX03
import Derived.Deep.MidRow
namespace Go.Proofs.YtlooaipipmiijaaGreat
set_option linter.unusedVariables false
set_option linter.unusedSimpArgs false
def nxc (n c : Nat) : Nat := if c + 1 = n then 0 else c + 1
def dst (n x y : Nat) : Nat := if x ≤ y then y - x else y + n - x
theorem nxc_lt {n c : Nat} (h : c < n) : nxc n c < n := by unfold nxc; split <;> omega
theorem dst_lt {n x y : Nat} (hx : x < n) (hy : y < n) : dst n x y < n := by unfold dst; split <;> omega
theorem dst_self (n x : Nat) : dst n x x = 0 := by unfold dst; rw [if_pos (Nat.le_refl x)]; omega
theorem dst_zero {n x y : Nat} (hx : x < n) (hy : y < n) (h : dst n x y = 0) : x = y := by unfold dst at h; split at h <;> omega
theorem dst_inj {n x y z : Nat} (hx : x < n) (hy : y < n) (hz : z < n) (h : dst n x y = dst n x z) : y = z := by unfold dst at h; split at h <;> split at h <;> omega
theorem dst_nxc {n x c : Nat} (hx : x < n) (hc : c < n) (h : nxc n c ≠ x) : dst n x (nxc n c) = dst n x c + 1 := by
  unfold nxc at *; unfold dst; split at h <;> (repeat' split) <;> omega
theorem dst_add {n x y z : Nat} (hx : x < n) (hy : y < n) (hz : z < n) (h : dst n x y ≤ dst n x z) : dst n x z = dst n x y + dst n y z := by
  unfold dst at *; (repeat' split at h) <;> (repeat' split) <;> omega
theorem dst_tri {n x y z : Nat} (hx : x < n) (hy : y < n) (hz : z < n) : dst n x z ≤ dst n x y + dst n y z := by
  unfold dst; (repeat' split) <;> omega
theorem dst_next {n c z : Nat} (hc : c < n) (hz : z < n) (h : c ≠ z) : dst n (nxc n c) z + 1 = dst n c z := by
  unfold nxc dst; (repeat' split) <;> omega
def upC (C : Nat → Nat) (c v : Nat) : Nat → Nat := fun x => if x = c then v else C x
theorem uC_same (C : Nat → Nat) (c v : Nat) : upC C c v c = v := if_pos rfl
theorem uC_ne (C : Nat → Nat) {c x : Nat} (v : Nat) (h : x ≠ c) : upC C c v x = C x := if_neg h
def WayP (n : Nat) (C hm : Nat → Nat) : Prop := ∀ c, c < n → C c ≠ 0 → ∀ d, d < n → dst n (hm (C c)) d < dst n (hm (C c)) c → C d ≠ 0
structure TabP (n : Nat) (C hm : Nat → Nat) : Prop where
  way : WayP n C hm
  uq : ∀ c d, c < n → d < n → C c ≠ 0 → C c = C d → c = d
  hl : ∀ c, c < n → C c ≠ 0 → hm (C c) < n
  em : ∃ z, z < n ∧ C z = 0
theorem TabP.absent {n : Nat} {C hm : Nat → Nat} (h : TabP n C hm) {a c : Nat} (ha : a < n) (hc : c < n) (h0 : C c = 0) {X : Nat → Prop} (hX : ∀ v, X v → hm v = a) (hw : ∀ e, e < n → dst n a e < dst n a c → ¬ X (C e)) :
    ∀ d, d < n → C d ≠ 0 → ¬ X (C d) := fun d hd hd0 hx => by
  have e := hX _ hx
  by_cases k : dst n a d < dst n a c
  · exact hw d hd k hx
  · by_cases k2 : dst n a d = dst n a c
    · have := dst_inj ha hd hc k2; rw [this] at hd0; exact hd0 h0
    · exact h.way d hd hd0 c hc (by rw [e]; omega) h0
theorem TabP.put {n : Nat} {C hm hm' : Nat → Nat} (h : TabP n C hm) {a c v : Nat} (ha : a < n) (hc : c < n) (h0 : C c = 0) (hv : v ≠ 0) (hn : ∀ d, d < n → C d ≠ v) (hw : ∀ e, e < n → dst n a e < dst n a c → C e ≠ 0)
    (hm1 : hm' v = a) (hm2 : ∀ u, u ≠ v → u ≠ 0 → hm' u = hm u) (hz : ∃ z, z < n ∧ z ≠ c ∧ C z = 0) : TabP n (upC C c v) hm' := by
  have up : ∀ e, C e ≠ 0 → upC C c v e ≠ 0 := fun e he => by
    by_cases k : e = c
    · rw [k, uC_same]; exact hv
    · rw [uC_ne _ _ k]; exact he
  refine ⟨fun d hd hd0 e he k => up e ?_, fun d e hd he hd0 k => ?_, fun d hd hd0 => ?_, ?_⟩
  · by_cases k2 : d = c
    · subst k2; rw [uC_same, hm1] at k; exact hw e he k
    · rw [uC_ne _ _ k2] at k hd0; rw [hm2 _ (hn d hd) hd0] at k; exact h.way d hd hd0 e he k
  · by_cases k1 : d = c <;> by_cases k2 : e = c
    · rw [k1, k2]
    · rw [k1, uC_same, uC_ne _ _ k2] at k; exact absurd k.symm (hn e he)
    · rw [k2, uC_same, uC_ne _ _ k1] at k; exact absurd k (hn d hd)
    · rw [uC_ne _ _ k1] at k hd0; rw [uC_ne _ _ k2] at k; exact h.uq d e hd he hd0 k
  · by_cases k : d = c
    · rw [k, uC_same, hm1]; exact ha
    · rw [uC_ne _ _ k] at hd0 ⊢; rw [hm2 _ (hn d hd) hd0]; exact h.hl d hd hd0
  · obtain ⟨z, z1, z2, z3⟩ := hz
    exact ⟨z, z1, by rw [uC_ne _ _ z2]; exact z3⟩
theorem TabP.congr {n : Nat} {C hm hm' : Nat → Nat} (h : TabP n C hm) (he : ∀ c, c < n → C c ≠ 0 → hm' (C c) = hm (C c)) : TabP n C hm' :=
  ⟨fun d hd hd0 e hl k => h.way d hd hd0 e hl (by rw [← he d hd hd0]; exact k), h.uq, fun d hd hd0 => by rw [he d hd hd0]; exact h.hl d hd hd0, h.em⟩
theorem pig : ∀ (m n : Nat) (f : Nat → Nat), (∀ i, i < n → f i < m) → (∀ i j, i < n → j < n → f i = f j → i = j) → n ≤ m
  | 0, n, f, h, _ => Nat.le_of_not_lt fun c => Nat.not_lt_zero _ (h 0 c)
  | m + 1, 0, f, _, _ => Nat.zero_le _
  | m + 1, n + 1, f, h, hi => by
    have := pig m n (fun i => if f i = m then f n else f i) (fun i hl => by
      have h1 := h i (by omega)
      have h2 := h n (by omega)
      show (if f i = m then f n else f i) < m
      by_cases c : f i = m
      · rw [if_pos c]
        have : f n ≠ m := fun e => by have := hi i n (by omega) (by omega) (by omega); omega
        omega
      · rw [if_neg c]; omega) (fun i j hl hl2 e => by
      have e' : (if f i = m then f n else f i) = (if f j = m then f n else f j) := e
      by_cases c : f i = m <;> by_cases d : f j = m
      · exact hi i j (by omega) (by omega) (by omega)
      · rw [if_pos c, if_neg d] at e'; have := hi n j (by omega) (by omega) e'; omega
      · rw [if_neg c, if_pos d] at e'; have := hi i n (by omega) (by omega) e'; omega
      · rw [if_neg c, if_neg d] at e'; exact hi i j (by omega) (by omega) e')
    omega
structure HoleP (n : Nat) (C hm : Nat → Nat) (P : Nat → Prop) (z hole c : Nat) : Prop where
  zl : z < n
  z0 : C z = 0
  ll : hole < n
  cl : c < n
  hl : ∀ d, d < n → C d ≠ 0 → hm (C d) < n
  way : WayP n C hm
  pas : ∀ d, d < n → d ≠ hole → C d ≠ 0 → dst n (hm (C d)) hole < dst n (hm (C d)) d → dst n hole c < dst n hole d
  sc : ∀ e, e < n → dst n hole e ≤ dst n hole c → C e ≠ 0
  uq : ∀ d e, d < n → e < n → d ≠ hole → e ≠ hole → C d ≠ 0 → C d = C e → d = e
  mem : ∀ v, P v ↔ v ≠ 0 ∧ ∃ d, d < n ∧ d ≠ hole ∧ C d = v
theorem HoleP.start {n : Nat} {C hm : Nat → Nat} (h : TabP n C hm) {hole : Nat} (hh : hole < n) (h0 : C hole ≠ 0) : ∃ z, HoleP n C hm (fun v => v ≠ C hole ∧ v ≠ 0 ∧ ∃ d, d < n ∧ C d = v) z hole hole := by
  obtain ⟨z, z1, z2⟩ := h.em
  refine ⟨z, z1, z2, hh, hh, h.hl, h.way, fun d hd hne hd0 k => ?_, fun e he k => ?_, fun d e hd he _ _ => h.uq d e hd he, fun v => ⟨fun ⟨k1, k2, d, d1, d2⟩ => ⟨k2, d, d1, fun e => k1 (by rw [← d2, e]), d2⟩, fun ⟨k2, d, d1, d2, d3⟩ => ⟨fun e => d2 ?_, k2, d, d1, d3⟩⟩⟩
  · rw [dst_self]
    exact Nat.pos_of_ne_zero fun e => hne (dst_zero hh hd e).symm
  · rw [dst_self] at k
    rw [← dst_zero hh he (by omega)]; exact h0
  · exact h.uq d hole d1 hh (by rw [d3]; exact k2) (by rw [d3, e])
section
variable {n : Nat} {C hm : Nat → Nat} {P : Nat → Prop} {z hole c : Nat}
theorem HoleP.cz (h : HoleP n C hm P z hole c) : c ≠ z := fun e => h.sc c h.cl (Nat.le_refl _) (by rw [e]; exact h.z0)
theorem HoleP.nh (h : HoleP n C hm P z hole c) : nxc n c ≠ hole := fun e => by
  have h1 := dst_next h.cl h.zl h.cz
  rw [e] at h1
  have h2 := dst_lt h.ll h.zl
  by_cases k : dst n hole z ≤ dst n hole c
  · exact h.sc z h.zl k h.z0
  · have := dst_add h.ll h.cl h.zl (by omega)
    have h3 := dst_zero h.ll h.cl (by omega)
    have h4 := dst_next (n := n) (c := c) (z := hole)
    rw [h3] at e
    have : n = 1 ∨ n ≠ 1 := by omega
    have hc := h.cl
    have hz := h.zl
    have hcz := h.cz
    unfold nxc at e; split at e <;> omega
theorem HoleP.meas (h : HoleP n C hm P z hole c) : dst n (nxc n c) z + 1 = dst n c z := dst_next h.cl h.zl h.cz
theorem HoleP.far (h : HoleP n C hm P z hole c) : dst n hole (nxc n c) = dst n hole c + 1 := dst_nxc h.ll h.cl h.nh
theorem HoleP.skip (h : HoleP n C hm P z hole c) (h0 : C (nxc n c) ≠ 0) (hlt : dst n (hm (C (nxc n c))) (nxc n c) < dst n hole (nxc n c)) : HoleP n C hm P z hole (nxc n c) := by
  have hl := nxc_lt h.cl
  have hf := h.far
  refine ⟨h.zl, h.z0, h.ll, hl, h.hl, h.way, fun d hd hne hd0 k => ?_, fun e he k => ?_, h.uq, h.mem⟩
  · have h1 := h.pas d hd hne hd0 k
    by_cases e : d = nxc n c
    · rw [e] at k
      have := dst_add (h.hl _ hl h0) h.ll hl (by omega)
      omega
    · have : dst n hole d ≠ dst n hole (nxc n c) := fun k => e (dst_inj h.ll hd hl k)
      omega
  · by_cases e1 : dst n hole e ≤ dst n hole c
    · exact h.sc e he e1
    · rw [dst_inj h.ll he hl (by omega)]; exact h0
theorem HoleP.move (h : HoleP n C hm P z hole c) (h0 : C (nxc n c) ≠ 0) (hge : ¬ dst n (hm (C (nxc n c))) (nxc n c) < dst n hole (nxc n c)) : HoleP n (upC C hole (C (nxc n c))) hm P z (nxc n c) (nxc n c) := by
  have hl := nxc_lt h.cl
  have hne := h.nh
  have hz : z ≠ hole := fun e => h.sc hole h.ll (by rw [dst_self]; omega) (by rw [← e]; exact h.z0)
  have up : ∀ e, C e ≠ 0 → upC C hole (C (nxc n c)) e ≠ 0 := fun e he => by
    by_cases k : e = hole
    · rw [k, uC_same]; exact h0
    · rw [uC_ne _ _ k]; exact he
  have hcl := h.hl _ hl h0
  have thr : dst n (hm (C (nxc n c))) hole ≤ dst n (hm (C (nxc n c))) (nxc n c) := by
    have h1 := h.ll
    unfold dst at *; (repeat' split at hge) <;> (repeat' split) <;> omega
  refine ⟨h.zl, by rw [uC_ne _ _ hz]; exact h.z0, hl, hl, fun d hd hd0 => ?_, fun d hd hd0 e he k => up e ?_, fun d hd hdn hd0 k => ?_, fun e he k => ?_, fun d e hd he k1 k2 hd0 k => ?_, fun v => ?_⟩
  · by_cases k : d = hole
    · rw [k, uC_same]; exact hcl
    · rw [uC_ne _ _ k] at hd0 ⊢; exact h.hl d hd hd0
  · by_cases k2 : d = hole
    · rw [k2, uC_same] at k
      exact h.way _ hl h0 e he (by omega)
    · rw [uC_ne _ _ k2] at k hd0; exact h.way d hd hd0 e he k
  · rw [dst_self]
    exact Nat.pos_of_ne_zero fun e => hdn (dst_zero hl hd e).symm
  · rw [dst_self] at k
    rw [← dst_zero hl he (by omega), uC_ne _ _ hne]; exact h0
  · by_cases e1 : d = hole <;> by_cases e2 : e = hole
    · rw [e1, e2]
    · rw [e1, uC_same, uC_ne _ _ e2] at k
      exact absurd (h.uq _ e hl he hne e2 h0 k).symm k2
    · rw [e2, uC_same, uC_ne _ _ e1] at k
      exact absurd (h.uq _ d hl hd hne e1 h0 k.symm).symm k1
    · rw [uC_ne _ _ e1] at k hd0; rw [uC_ne _ _ e2] at k; exact h.uq d e hd he e1 e2 hd0 k
  · rw [h.mem v]
    refine ⟨fun ⟨k1, d, d1, d2, d3⟩ => ⟨k1, ?_⟩, fun ⟨k1, d, d1, d2, d3⟩ => ⟨k1, ?_⟩⟩
    · by_cases e : d = nxc n c
      · exact ⟨hole, h.ll, fun e2 => hne e2.symm, by rw [uC_same, ← e]; exact d3⟩
      · exact ⟨d, d1, e, by rw [uC_ne _ _ d2]; exact d3⟩
    · by_cases e : d = hole
      · rw [e, uC_same] at d3
        exact ⟨_, hl, hne, d3⟩
      · rw [uC_ne _ _ e] at d3
        exact ⟨d, d1, e, d3⟩
theorem HoleP.done (h : HoleP n C hm P z hole c) (h0 : C (nxc n c) = 0) : TabP n (upC C hole 0) hm ∧ ∀ v, P v ↔ v ≠ 0 ∧ ∃ d, d < n ∧ upC C hole 0 d = v := by
  have hl := nxc_lt h.cl
  have hf := h.far
  have ne : ∀ d, upC C hole 0 d ≠ 0 → d ≠ hole ∧ C d ≠ 0 := fun d k => by
    by_cases e : d = hole
    · rw [e, uC_same] at k; exact absurd rfl k
    · rw [uC_ne _ _ e] at k; exact ⟨e, k⟩
  refine ⟨⟨fun d hd hd0 e he k => ?_, fun d e hd he hd0 k => ?_, fun d hd hd0 => ?_, ⟨hole, h.ll, uC_same _ _ _⟩⟩, fun v => ?_⟩
  · obtain ⟨d1, d2⟩ := ne d hd0
    rw [uC_ne _ _ d1] at k
    have hk := h.hl d hd d2
    have he0 := h.way d hd d2 e he k
    by_cases e1 : e = hole
    · exfalso
      rw [e1] at k
      have h1 := h.pas d hd d1 d2 k
      have h2 : dst n hole d ≠ dst n hole (nxc n c) := fun q => d2 (by rw [dst_inj h.ll hd hl q]; exact h0)
      have h3 := dst_add hk h.ll hd (by omega)
      have h4 := dst_add h.ll hl hd (by omega)
      refine h.way d hd d2 (nxc n c) hl ?_ h0
      have h5 := dst_tri hk h.ll hl
      have h6 : dst n (nxc n c) d ≠ 0 := fun q => d2 (by rw [← dst_zero hl hd q]; exact h0)
      omega
    · rw [uC_ne _ _ e1]; exact he0
  · obtain ⟨d1, d2⟩ := ne d hd0
    obtain ⟨e1, e2⟩ := ne e (by rw [← k]; exact hd0)
    rw [uC_ne _ _ d1, uC_ne _ _ e1] at k
    exact h.uq d e hd he d1 e1 d2 k
  · obtain ⟨d1, d2⟩ := ne d hd0
    rw [uC_ne _ _ d1]; exact h.hl d hd d2
  · rw [h.mem v]
    refine ⟨fun ⟨k1, d, d1, d2, d3⟩ => ⟨k1, d, d1, by rw [uC_ne _ _ d2]; exact d3⟩, fun ⟨k1, d, d1, d3⟩ => ⟨k1, d, d1, ?_⟩⟩
    obtain ⟨q1, q2⟩ := ne d (by rw [d3]; exact k1)
    rw [uC_ne _ _ q1] at d3
    exact ⟨q1, d3⟩
end
end Go.Proofs.YtlooaipipmiijaaGreat

namespace Go.Proofs.YtlooaipipmiijaaGreat
set_option linter.unusedVariables false
set_option linter.unusedSimpArgs false
open Go.RowKit
theorem Blk.setAll {b : Nat} {T : TypeId} (vs : List Value) : ∀ {w : World} (pre old : List Value), Blk w b T (pre ++ old) → old.length = vs.length → Blk (w.setCells b pre.length vs) b T (pre ++ vs) := by
  induction vs with
  | nil =>
    intro w pre old h hl
    have : old = [] := List.eq_nil_of_length_eq_zero hl
    subst this
    exact h
  | cons v vs ih =>
    intro w pre old h hl
    match old, hl with
    | o :: old, hl =>
      have h1 := h.set pre.length v
      have e1 : (pre ++ o :: old).set pre.length v = (pre ++ [v]) ++ old := by simp
      rw [e1] at h1
      have h2 := ih (pre ++ [v]) old h1 (by simpa using hl)
      rw [List.append_assoc, List.length_append] at h2
      exact h2
theorem Mod.setCells {F : Nat → Prop} {b : Nat} (vs : List Value) : ∀ {a w : World} (o : Nat), Mod F a w → (b < a.heap.size → F b) → Mod F a (w.setCells b o vs) := by
  induction vs with
  | nil => intro a w o h _; exact h
  | cons v vs ih => intro a w o h hb; exact ih (o + 1) (h.setCell ⟨b, o, none⟩ hb v) hb
theorem wpList_loadBlk {P : Program} {ops : Array Oper} {rest : List Oper} {d : Tmp} {ty t1 : TypeId} {x : Operand} {pos : String} {aft : Array Edge} {a : Act} {Q : Exit → Act → World → Prop} {w : World}
    (g : Nat) (T : TypeId) (cs : List Value) (ds : TypeDesc) (hx : a.eval x = .pointer (some ⟨g, 0, none⟩)) (hg : Blk w g T cs)
    (hu : P.underlying ty = some ds) (hd : (match ds with | .struct _ | .array _ _ => true | _ => false) = true) (hi : (P.info? ty).map (·.size) = some cs.length)
    (h : wpList P ops Q rest (a.put (some d) (.agg cs.toArray)) w) : wpList P ops Q (⟨some d, .load ty x, t1, pos, aft, none⟩ :: rest) a w :=
  wpList_load_row rfl ty x rfl g hx T cs.toArray (0, 0) ds hg hu hd (by simpa using hi) h
theorem wpList_storeBlk {P : Program} {ops : Array Oper} {rest : List Oper} {ty t1 : TypeId} {x y : Operand} {pos : String} {aft : Array Edge} {a : Act} {Q : Exit → Act → World → Prop} {w : World}
    (g : Nat) (T : TypeId) (cs vs : List Value) (hx : a.eval x = .pointer (some ⟨g, 0, none⟩)) (hy : a.eval y = .agg vs.toArray) (hg : Blk w g T cs) (hl : cs.length = vs.length)
    (hi : (P.info? ty).map (·.size) = some vs.length) (h1 : ∀ v ∈ vs, v.oneCell' = true)
    (h : ∀ w1, Blk w1 g T vs → Mod (fun k => k = g) w w1 → wpList P ops Q rest (a.put none undef) w1) : wpList P ops Q (⟨none, .store ty x y, t1, pos, aft, none⟩ :: rest) a w := by
  refine wpList_store_mid rfl ty x y rfl g 0 vs.toArray hx hy (fun j hj => ?_) (by simpa using hi) (all_oneCell_toArray h1) ?_
  · simp only [List.size_toArray] at hj
    rw [Nat.zero_add]
    refine ⟨?_, hg.free j⟩
    have hjl : j < cs.length := by omega
    rw [hg.cell (List.getElem?_eq_getElem hjl)]; rfl
  · have hb := Blk.setAll vs (w := w) [] cs (T := T) hg hl
    have hm := Mod.setCells (F := fun k => k = g) (b := g) vs (a := w) (w := w) 0 (Mod.refl _ _) (fun _ => rfl)
    exact h _ hb hm
theorem run_makeE {P : Program} (t e : TypeId) (z : Value) (bytes : Nat) (ht : P.underlying t = some (.slice e)) (hz : (P.info? e).map (fun i => (i.zero, i.size, i.bytes)) = some (some z, 1, bytes)) (hone : z.cells = #[z])
    (kl kc : IntKind) (n : Nat) (b2 : bytes * n ≤ 281474976710656) (b3 : n ≤ maxLen) (w : World) :
    (Instr.makeSlice t (.int kl (n : Int)) (.int kc (n : Int))).run P w = .ok (.slice (some ⟨w.heap.size, 0, none⟩) n n) (w.alloc (.cells (List.replicate n z).toArray e)) := by
  obtain ⟨i, hi, hz0, hz1, hz2⟩ := info_parts hz
  unfold maxLen at b3
  have hb : (i.bytes : Int) * (n : Int) ≤ 281474976710656 := by
    have h : ((i.bytes * n : Nat) : Int) ≤ 281474976710656 := by rw [hz2]; omega
    rwa [Int.natCast_mul] at h
  have hr := run_make (P := P) w t e i z ht hi hz0 kl kc n n (by omega) (by omega) hb (by omega)
  simp only [Int.toNat_natCast] at hr
  rw [hr]
  have : madeCells z.cells (n * i.size) = (List.replicate n z).toArray := by
    apply Array.toList_inj.1
    rw [hz1, Nat.mul_one, hone, madeCells_one]
  rw [this]
end Go.Proofs.YtlooaipipmiijaaGreat

namespace Go.Proofs.YtlooaipipmiijaaGreat
set_option linter.unusedVariables false
set_option linter.unusedSimpArgs false
abbrev Ent := Int × Int
def cmpI (a b : Int) : Int := if a < b then -1 else if b < a then 1 else 0
def orI (x y : Int) : Int := if x = 0 then y else x
def ordI (a b : Ent) : Int := orI (cmpI a.2 b.2) (cmpI a.1 b.1)
def elt (a b : Ent) : Prop := a.2 < b.2 ∨ (a.2 = b.2 ∧ a.1 < b.1)
instance eltDec (a b : Ent) : Decidable (elt a b) := by unfold elt; infer_instance
theorem ordI_neg (a b : Ent) : ordI a b < 0 ↔ elt a b := by
  unfold ordI orI cmpI elt
  repeat' split
  all_goals omega
theorem elt_irrefl (a : Ent) : ¬ elt a a := by unfold elt; omega
theorem elt_asymm {a b : Ent} (h : elt a b) : ¬ elt b a := by unfold elt at *; omega
theorem elt_trans {a b c : Ent} (h : elt a b) (k : elt b c) : elt a c := by unfold elt at *; omega
theorem nelt_trans {a b c : Ent} (h : ¬ elt a b) (k : ¬ elt b c) : ¬ elt a c := by unfold elt at *; omega
theorem elt_of_ne {a b : Ent} (h : ¬ elt a b) (hne : a ≠ b) : elt b a := by
  obtain ⟨a1, a2⟩ := a
  obtain ⟨b1, b2⟩ := b
  unfold elt at *
  simp only [ne_eq, Prod.mk.injEq] at *
  omega
theorem nelt_of_elt {a b c : Ent} (h : elt a b) (k : ¬ elt c b) : ¬ elt c a := by unfold elt at *; omega
def ent (it : List Ent) (p : Nat) : Ent := it.getD p (0, 0)
theorem ent_eq {it : List Ent} {p : Nat} (h : p < it.length) : ent it p = it[p] := by simp [ent, h]
theorem ent_mem {it : List Ent} {p : Nat} (h : p < it.length) : ent it p ∈ it := by rw [ent_eq h]; exact List.getElem_mem h
theorem mem_ent {it : List Ent} {e : Ent} (h : e ∈ it) : ∃ p, p < it.length ∧ ent it p = e := by
  obtain ⟨p, hp, he⟩ := List.getElem_of_mem h
  exact ⟨p, hp, by rw [ent_eq hp]; exact he⟩
theorem take_snoc_ent {it : List Ent} {m : Nat} (h : it.length = m + 1) : it = it.take m ++ [ent it m] := by
  rw [ent_eq (by omega), ← List.take_succ_eq_append_getElem, List.take_of_length_le (by omega)]
def swapL (it : List Ent) (p q : Nat) : List Ent := (it.set p (ent it q)).set q (ent it p)
theorem swapL_length (it : List Ent) (p q : Nat) : (swapL it p q).length = it.length := by simp [swapL]
theorem ent_swapL {it : List Ent} {p q : Nat} (hp : p < it.length) (hq : q < it.length) (k : Nat) :
    ent (swapL it p q) k = if k = q then ent it p else if k = p then ent it q else ent it k := by
  unfold swapL ent
  simp only [List.getD_eq_getElem?_getD, List.getElem?_set, List.length_set]
  repeat' split
  all_goals first | rfl | (subst_vars; simp_all) | omega
theorem set_perm {α : Type} (l : List α) (p : Nat) (h : p < l.length) (x : α) : (l.set p x).Perm (x :: l.eraseIdx p) := by
  induction l generalizing p with
  | nil => simp at h
  | cons a l ih =>
    cases p with
    | zero => simp
    | succ p =>
      simp only [List.set_cons_succ, List.eraseIdx_cons_succ]
      exact ((ih p (by simpa using h)).cons a).trans (List.Perm.swap _ _ _)
theorem eraseIdx_perm {α : Type} (l : List α) (p : Nat) (h : p < l.length) : l.Perm (l[p] :: l.eraseIdx p) := by
  have := set_perm l p h l[p]
  rwa [List.set_getElem_self] at this
theorem swapL_perm {it : List Ent} {p q : Nat} (hp : p < it.length) (hq : q < it.length) : (swapL it p q).Perm it := by
  apply List.perm_iff_count.2
  intro a
  unfold swapL
  have h1 := (set_perm (it.set p (ent it q)) q (by simpa using hq) (ent it p)).count_eq a
  have h2 := (eraseIdx_perm (it.set p (ent it q)) q (by simpa using hq)).count_eq a
  have h3 := (set_perm it p hp (ent it q)).count_eq a
  have h4 := (eraseIdx_perm it p hp).count_eq a
  have h5 : (it.set p (ent it q))[q]'(by simpa using hq) = if p = q then ent it q else it[q] := by
    rw [List.getElem_set]
  rw [h5] at h2
  rw [ent_eq hp, ent_eq hq] at *
  simp only [List.count_cons] at *
  split at h2 <;> omega
def par (q : Nat) : Nat := (q - 1) / 2
def Heapy (it : List Ent) : Prop := ∀ q, 0 < q → q < it.length → ¬ elt (ent it q) (ent it (par q))
def UpInv (it : List Ent) (p : Nat) : Prop :=
  (∀ q, 0 < q → q < it.length → q ≠ p → par q ≠ p → ¬ elt (ent it q) (ent it (par q))) ∧
  (0 < p → ∀ c, 0 < c → c < it.length → par c = p → ¬ elt (ent it c) (ent it (par p)))
def DownInv (it : List Ent) (p : Nat) : Prop :=
  (∀ q, 0 < q → q < it.length → par q ≠ p → ¬ elt (ent it q) (ent it (par q))) ∧
  (0 < p → ∀ c, 0 < c → c < it.length → par c = p → ¬ elt (ent it c) (ent it (par p)))
theorem up_step {it : List Ent} {p : Nat} (hp : p < it.length) (h0 : 0 < p) (hl : elt (ent it p) (ent it (par p))) (h : UpInv it p) : UpInv (swapL it p (par p)) (par p) := by
  have hq : par p < p := by unfold par; omega
  have hql : par p < it.length := by omega
  obtain ⟨A, B⟩ := h
  refine ⟨fun r r0 rl rn rp => ?_, fun hq0 c c0 cl cp => ?_⟩
  · rw [swapL_length] at rl
    rw [ent_swapL hp hql, ent_swapL hp hql]
    have hrp : r ≠ p := fun e => by subst e; exact rp rfl
    rw [if_neg rn, if_neg hrp, if_neg rp]
    by_cases e : par r = p
    · rw [if_pos e]; exact B h0 r r0 rl e
    · rw [if_neg e]; exact A r r0 rl hrp e
  · rw [swapL_length] at cl
    rw [ent_swapL hp hql, ent_swapL hp hql]
    have h1 : par (par p) ≠ par p := by unfold par at *; omega
    have h2 : par (par p) ≠ p := by unfold par at *; omega
    rw [if_neg h1, if_neg h2]
    have hc : c ≠ par p := by intro e; unfold par at *; omega
    rw [if_neg hc]
    have h3 := A (par p) hq0 hql (by omega) h2
    by_cases e : c = p
    · rw [if_pos e]; exact h3
    · rw [if_neg e]
      have h4 := A c c0 cl e (by rw [cp]; omega)
      rw [cp] at h4
      exact nelt_trans h4 h3
theorem up_end {it : List Ent} {p : Nat} (h : UpInv it p) (hn : ¬ (0 < p ∧ elt (ent it p) (ent it (par p)))) : DownInv it p := by
  refine ⟨fun q q0 ql hq => ?_, h.2⟩
  by_cases e : q = p
  · subst e; exact fun hl => hn ⟨q0, hl⟩
  · exact h.1 q q0 ql e hq
theorem down_step {it : List Ent} {p q : Nat} (hp : p < it.length) (hq : q < it.length) (q0 : 0 < q) (hpar : par q = p) (hl : elt (ent it q) (ent it p))
    (hmin : ∀ c, 0 < c → c < it.length → par c = p → ¬ elt (ent it c) (ent it q)) (h : DownInv it p) : DownInv (swapL it p q) q := by
  obtain ⟨A, B⟩ := h
  have hpq : p < q := by unfold par at *; omega
  refine ⟨fun r r0 rl rp => ?_, fun _ c c0 cl cp => ?_⟩
  · rw [swapL_length] at rl
    rw [ent_swapL hp hq, ent_swapL hp hq]
    by_cases e1 : r = q
    · subst e1
      rw [if_pos rfl, hpar, if_neg (by omega), if_pos rfl]
      exact elt_asymm hl
    · rw [if_neg e1, if_neg rp]
      by_cases e2 : r = p
      · subst e2
        have h1 : par r ≠ r := by unfold par; omega
        rw [if_pos rfl, if_neg h1]
        exact B r0 q q0 hq hpar
      · rw [if_neg e2]
        by_cases e3 : par r = p
        · rw [if_pos e3]; exact hmin r r0 rl e3
        · rw [if_neg e3]; exact A r r0 rl e3
  · rw [swapL_length] at cl
    rw [ent_swapL hp hq, ent_swapL hp hq, hpar]
    have h1 : c ≠ q := by intro e; unfold par at *; omega
    have h2 : c ≠ p := by intro e; unfold par at *; omega
    rw [if_neg h1, if_neg h2, if_neg (by omega), if_pos rfl]
    have := A c c0 cl (by rw [cp]; omega)
    rwa [cp] at this
theorem down_end {it : List Ent} {p : Nat} (h : DownInv it p) (hn : ∀ c, 0 < c → c < it.length → par c = p → ¬ elt (ent it c) (ent it p)) : Heapy it := by
  intro q q0 ql
  by_cases e : par q = p
  · rw [e]; exact hn q q0 ql e
  · exact h.1 q q0 ql e
def bel1 (it : List Ent) (p : Nat) : Nat := if 2 * p + 1 < it.length ∧ elt (ent it (2 * p + 1)) (ent it p) then 2 * p + 1 else p
def bel2 (it : List Ent) (p : Nat) : Nat := if 2 * p + 2 < it.length ∧ elt (ent it (2 * p + 2)) (ent it (bel1 it p)) then 2 * p + 2 else bel1 it p
theorem bel_none {it : List Ent} {p : Nat} (h : bel2 it p = p) : ∀ c, 0 < c → c < it.length → par c = p → ¬ elt (ent it c) (ent it p) := by
  intro c c0 cl cp
  have hc : c = 2 * p + 1 ∨ c = 2 * p + 2 := by unfold par at cp; omega
  have h1 : bel1 it p = p := by unfold bel2 at h; split at h <;> omega
  rcases hc with rfl | rfl
  · unfold bel1 at h1
    split at h1
    · omega
    · rename_i hn; exact fun hl => hn ⟨cl, hl⟩
  · unfold bel2 at h
    rw [h1] at h
    split at h
    · omega
    · rename_i hn; exact fun hl => hn ⟨cl, hl⟩
theorem bel_some {it : List Ent} {p : Nat} (h : bel2 it p ≠ p) : 0 < bel2 it p ∧ bel2 it p < it.length ∧ par (bel2 it p) = p ∧ elt (ent it (bel2 it p)) (ent it p) ∧
    ∀ c, 0 < c → c < it.length → par c = p → ¬ elt (ent it c) (ent it (bel2 it p)) := by
  have hb1 : bel1 it p = p ∨ (bel1 it p = 2 * p + 1 ∧ 2 * p + 1 < it.length ∧ elt (ent it (2 * p + 1)) (ent it p)) := by
    unfold bel1; split
    · rename_i hh; exact .inr ⟨rfl, hh⟩
    · exact .inl rfl
  have hb1n : ∀ c, c = 2 * p + 1 → c < it.length → ¬ elt (ent it c) (ent it (bel1 it p)) := by
    rintro c rfl cl
    unfold bel1; split
    · exact elt_irrefl _
    · rename_i hn; exact fun hl => hn ⟨cl, hl⟩
  by_cases c2 : 2 * p + 2 < it.length ∧ elt (ent it (2 * p + 2)) (ent it (bel1 it p))
  · have e : bel2 it p = 2 * p + 2 := by unfold bel2; rw [if_pos c2]
    rw [e]
    refine ⟨by omega, c2.1, by unfold par; omega, ?_, ?_⟩
    · rcases hb1 with hb | ⟨hb, _, hl⟩
      · have := c2.2; rwa [hb] at this
      · have := c2.2; rw [hb] at this; exact elt_trans this hl
    · intro c c0 cl cp
      have hc : c = 2 * p + 1 ∨ c = 2 * p + 2 := by unfold par at cp; omega
      rcases hc with rfl | rfl
      · exact nelt_of_elt c2.2 (hb1n _ rfl cl)
      · exact elt_irrefl _
  · have e : bel2 it p = bel1 it p := by unfold bel2; rw [if_neg c2]
    rw [e] at h ⊢
    rcases hb1 with hb | ⟨hb, hlt, hl⟩
    · exact absurd hb h
    · rw [hb]
      refine ⟨by omega, hlt, by unfold par; omega, hl, ?_⟩
      intro c c0 cl cp
      have hc : c = 2 * p + 1 ∨ c = 2 * p + 2 := by unfold par at cp; omega
      rcases hc with rfl | rfl
      · exact elt_irrefl _
      · rw [hb] at c2; exact fun hl => c2 ⟨cl, hl⟩
theorem heapy_min {it : List Ent} (h : Heapy it) (q : Nat) (hq : q < it.length) : ¬ elt (ent it q) (ent it 0) := by
  induction q using Nat.strongRecOn with
  | _ q ih =>
    by_cases q0 : q = 0
    · subst q0; exact elt_irrefl _
    · have := ih (par q) (by unfold par; omega) (by unfold par; omega)
      exact nelt_trans (h q (by omega) hq) this
theorem upInv_append {it : List Ent} (h : Heapy it) (x : Ent) : UpInv (it ++ [x]) it.length := by
  refine ⟨fun q q0 ql hq _ => ?_, fun _ c c0 cl cp => ?_⟩
  · simp only [List.length_append, List.length_cons, List.length_nil] at ql
    have e1 : ent (it ++ [x]) q = ent it q := by simp [ent, List.getElem?_append, show q < it.length by omega]
    have e2 : ent (it ++ [x]) (par q) = ent it (par q) := by
      have : par q < it.length := by unfold par; omega
      simp [ent, List.getElem?_append, this]
    rw [e1, e2]
    exact h q q0 (by omega)
  · simp only [List.length_append, List.length_cons, List.length_nil] at cl
    unfold par at cp; omega
theorem upInv_set {it it' : List Ent} {p : Nat} (h : Heapy it) (hlen : it'.length ≤ it.length) (hp : p < it'.length) (hk : ∀ k, k < it'.length → k ≠ p → ent it' k = ent it k) : UpInv it' p := by
  refine ⟨fun q q0 ql hq hpq => ?_, fun hp0 c c0 cl cp => ?_⟩
  · have hpl : par q < it'.length := by unfold par; omega
    rw [hk q ql hq, hk _ hpl hpq]
    exact h q q0 (by omega)
  · have h1 : c ≠ p := by intro e; unfold par at cp; omega
    have h2 : par p ≠ p := by unfold par; omega
    have h3 : par p < it'.length := by unfold par; omega
    rw [hk c cl h1, hk _ h3 h2]
    have a := h c c0 (by omega)
    rw [cp] at a
    exact nelt_trans a (h p hp0 (by omega))
def Sorted (S : List Ent) : Prop := S.Pairwise elt
def ins (e : Ent) : List Ent → List Ent
  | [] => [e]
  | x :: l => if elt e x then e :: x :: l else x :: ins e l
theorem ins_perm (e : Ent) (S : List Ent) : (ins e S).Perm (e :: S) := by
  induction S with
  | nil => exact List.Perm.refl _
  | cons x l ih =>
    unfold ins
    split
    · exact List.Perm.refl _
    · exact (ih.cons x).trans (List.Perm.swap _ _ _)
theorem ins_sorted {e : Ent} {S : List Ent} (h : Sorted S) (hne : e ∉ S) : Sorted (ins e S) := by
  induction S with
  | nil => exact List.pairwise_singleton _ _
  | cons x l ih =>
    unfold Sorted at *
    rw [List.pairwise_cons] at h
    unfold ins
    split
    · rename_i hl
      rw [List.pairwise_cons, List.pairwise_cons]
      refine ⟨fun y hy => ?_, h⟩
      rcases List.mem_cons.1 hy with rfl | hy
      · exact hl
      · exact elt_trans hl (h.1 y hy)
    · rename_i hl
      rw [List.pairwise_cons]
      refine ⟨fun y hy => ?_, ih h.2 (fun hm => hne (List.mem_cons_of_mem _ hm))⟩
      rcases List.mem_cons.1 ((ins_perm e l).mem_iff.1 hy) with rfl | hy
      · exact elt_of_ne hl (fun e => hne (by rw [e]; exact List.mem_cons_self))
      · exact h.1 y hy
theorem sorted_filter {S : List Ent} (h : Sorted S) (f : Ent → Bool) : Sorted (S.filter f) := h.filter f
end Go.Proofs.YtlooaipipmiijaaGreat
