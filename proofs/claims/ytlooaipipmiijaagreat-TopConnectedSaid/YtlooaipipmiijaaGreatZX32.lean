/- Several texts in one: FoC, FoD, FoT, FoE. -/
import Derived.Test.YtlooaipipmiijaaGreatZX31
namespace Go.Proofs.YtlooaipipmiijaaGreat
set_option linter.unusedVariables false
set_option linter.unusedSimpArgs false
open Go.RowKit
noncomputable def fmF (g : Nat → GE) (L F : Nat → Prop) (i : Int) : Option Value := open Classical in if 0 ≤ i ∧ L i.toNat then some (edV (g i.toNat).a (g i.toNat).b (g i.toNat).exp (decide (F i.toNat))) else none
theorem fmF_yes {g : Nat → GE} {L F : Nat → Prop} {s : Nat} (h : L s) (k : F s) : fmF g L F (s : Int) = some (edV (g s).a (g s).b (g s).exp true) := by
  unfold fmF
  rw [if_pos ⟨by omega, h⟩]
  simp [k]
theorem fmF_no {g : Nat → GE} {L F : Nat → Prop} {s : Nat} (h : L s) (k : ¬ F s) : fmF g L F (s : Int) = some (edV (g s).a (g s).b (g s).exp false) := by
  unfold fmF
  rw [if_pos ⟨by omega, h⟩]
  simp [k]
theorem fmF_out {g : Nat → GE} {L F : Nat → Prop} {s : Nat} (h : ¬ L s) : fmF g L F (s : Int) = none := by
  unfold fmF
  rw [if_neg (fun e => h e.2)]
theorem fmF_up {g g' : Nat → GE} {L L' F F' : Nat → Prop} {s : Nat} {v : Option Value} (hv : fmF g' L' F' (s : Int) = v) (h : ∀ t, t ≠ s → g' t = g t ∧ (L' t ↔ L t) ∧ (F' t ↔ F t)) (i : Int) : (if i = (s : Int) then v else fmF g L F i) = fmF g' L' F' i := by
  by_cases c : i = (s : Int)
  · rw [if_pos c, c, hv]
  · rw [if_neg c]
    unfold fmF
    by_cases d : 0 ≤ i
    · obtain ⟨h1, h2, h3⟩ := h i.toNat (by omega)
      by_cases l : L i.toNat
      · rw [if_pos ⟨d, l⟩, if_pos ⟨d, h2.2 l⟩, h1]
        by_cases k : F i.toNat
        · simp [k, h3.2 k]
        · have k2 : ¬ F' i.toNat := fun e => k (h3.1 e)
          simp [k, k2]
      · rw [if_neg (fun e => l e.2), if_neg (fun e => l (h2.1 e.2))]
    · rw [if_neg (fun e => d e.1), if_neg (fun e => d e.1)]
structure FoP0 (f : FoG) (g : Nat → GE) (L F : Nat → Prop) : Prop where
  ls : ∀ s, L s → s < f.S ∧ (g s).a < f.V ∧ (g s).b < f.V ∧ (g s).a ≠ (g s).b ∧ (g s).exp ≤ 9223372036854775807
  FL : ∀ s, F s → L s
  eE : ∀ x y, f.E x y ↔ EF f.S g F x y
  ke : ∀ s, F s → f.key (s + 1) = (g s).exp
  kv : ∀ v, v < f.V → f.key (f.S + v + 1) = 9223372036854775807
  fm : ∀ i, f.fm i = fmF g L F i
  que : ∀ i k, (i, k) ∈ f.Q ↔ ∃ s : Nat, i = (s : Int) ∧ L s ∧ k = (g s).exp
  tr : f.tr = (cntP F f.S : Int)
  c : f.c = cntP L f.S
  sz : f.S ≤ 16384 ∧ f.V ≤ 4096
structure FoP (f : FoG) (g : Nat → GE) (L F : Nat → Prop) : Prop extends FoP0 f g L F where
  span : Span g L F
section
variable {f : FoG} {g : Nat → GE} {L F : Nat → Prop} {w : World} {b : Nat}
theorem FoP0.fg (h : FoP0 f g L F) (m : FoM w b f) : ∃ N ed, LObj w f.lp f.lg (f.S + f.V) N ed ∧ FG f.S f.V g F N ∧ LG (f.S + f.V) f.E f.key N := by
  obtain ⟨N, ed, h1, h2⟩ := m.lct
  refine ⟨N, ed, h1, ⟨fun s hs => ?_, f.key, ?_, h.ke, h.kv⟩, h2⟩
  · obtain ⟨a1, a2, a3, a4, a5⟩ := h.ls s (h.FL s hs)
    exact ⟨a1, a2, a3, a4, a5⟩
  · have : f.E = EF f.S g F := funext fun x => funext fun y => propext (h.eE x y)
    rw [← this]; exact h2
theorem FoP0.acyc (h : FoP0 f g L F) (m : FoM w b f) : Acyc g F := by
  obtain ⟨N, ed, _, h2, _⟩ := h.fg m
  exact h2.acyc
theorem FoP0.trb (h : FoP0 f g L F) : 0 ≤ f.tr ∧ f.tr ≤ 16384 := by
  have := cntP_le (P := F) f.S
  have := h.sz.1
  rw [h.tr]; omega
theorem FoP0.cb (h : FoP0 f g L F) : f.c < maxLen := by
  have := cntP_le (P := L) f.S
  have := h.sz.1
  rw [h.c]; unfold maxLen; omega
theorem FoP0.rch (h : FoP0 f g L F) {u v : Nat} : Rch f.E (f.S + u + 1) (f.S + v + 1) ↔ Rch (Lnk g F) u v := by
  have : f.E = EF f.S g F := funext fun x => funext fun y => propext (h.eE x y)
  rw [this]
  exact ef_rch fun s hs => (h.ls s (h.FL s hs)).1
theorem FoP.conn (h : FoP f g L F) {u v : Nat} : Rch (Lnk g F) u v ↔ Rch (Lnk g L) u v :=
  ⟨fun k => k.mono (Lnk.mono h.FL), fun k => h.span.all k⟩
end
section
variable {g : Nat → GE} {X : Nat → Prop} {e : Nat} {G : GE}
theorem ef_up {S : Nat} (hX : ¬ X e) : ∀ x y, EF S (upF g e G) X x y ↔ EF S g X x y := fun x y => by
  constructor
  · rintro ⟨s, hs, k⟩
    have : s ≠ e := fun c => hX (c ▸ hs)
    rw [uF_ne _ _ this] at k
    exact ⟨s, hs, k⟩
  · rintro ⟨s, hs, k⟩
    have : s ≠ e := fun c => hX (c ▸ hs)
    exact ⟨s, hs, by rw [uF_ne _ _ this]; exact k⟩
theorem nb_up {s t : Nat} (hs : s ≠ e) (ht : t ≠ e) : Nb (upF g e G) s t ↔ Nb g s t := by
  unfold Nb
  rw [uF_ne _ _ hs, uF_ne _ _ ht]
theorem span_up {L F : Nat → Prop} (h : Span g L F) (hL : ¬ L e) (hF : ¬ F e) : Span (upF g e G) L F := fun s hs => by
  have hse : s ≠ e := fun c => hL (c ▸ hs)
  have k := h s hs
  rw [uF_ne _ _ hse]
  refine k.mono ?_
  rintro u v ⟨t, ⟨ht, hn⟩, k2⟩
  have hte : t ≠ e := fun c => hF (c ▸ ht)
  exact ⟨t, ⟨ht, (nb_up hte hse).2 hn⟩, by rw [uF_ne _ _ hte]; exact k2⟩
theorem ef_add {S : Nat} {e : Nat} (hX : ∀ s, X s → s < S) (he : e < S) (hn : ¬ X e) (hc : ¬ Rch (Lnk g X) (g e).a (g e).b) {E : Nat → Nat → Prop} (hE : ∀ x y, E x y ↔ EF S g X x y) :
    ¬ Rch E (e + 1) (S + (g e).a + 1) ∧ ¬ Rch (lnkE E (e + 1) (S + (g e).a + 1)) (e + 1) (S + (g e).b + 1) ∧ ∀ x y, lnkE (lnkE E (e + 1) (S + (g e).a + 1)) (e + 1) (S + (g e).b + 1) x y ↔ EF S g (fun s => X s ∨ s = e) x y := by
  have eE : E = EF S g X := funext fun x => funext fun y => propext (hE x y)
  subst eE
  have no : ∀ y, ¬ EF S g X (e + 1) y := by
    rintro y ⟨s, hs, k⟩
    have := hX s hs
    rcases k with ⟨k1, _⟩ | ⟨_, k2⟩
    · exact hn (by rw [show e = s by omega]; exact hs)
    · rcases k2 with k2 | k2 <;> omega
  refine ⟨fun k => ?_, fun k => ?_, fun x y => ⟨?_, ?_⟩⟩
  · have := k.stay (S := fun y => y = e + 1) (fun x y hx hy => absurd (hx ▸ hy) (no y)) rfl
    have h2 : S + (g e).a + 1 = e + 1 := this
    omega
  · have := k.stay (S := fun y => y = e + 1 ∨ Rch (EF S g X) (S + (g e).a + 1) y) (fun x y hx hy => by
      rcases hy with hy | ⟨_, hy⟩ | ⟨_, hy⟩
      · rcases hx with hx | hx
        · exact absurd (hx ▸ hy) (no y)
        · exact .inr (.step hx hy)
      · rw [hy]; exact .inr .refl
      · exact .inl hy) (.inl rfl)
    rcases this with k2 | k2
    · omega
    · exact hc ((ef_rch hX).1 k2)
  · rintro ((⟨s, hs, k⟩ | ⟨k1, k2⟩ | ⟨k1, k2⟩) | ⟨k1, k2⟩ | ⟨k1, k2⟩)
    · exact ⟨s, .inl hs, k⟩
    · exact ⟨e, .inr rfl, .inl ⟨k1, .inl k2⟩⟩
    · exact ⟨e, .inr rfl, .inr ⟨k2, .inl k1⟩⟩
    · exact ⟨e, .inr rfl, .inl ⟨k1, .inr k2⟩⟩
    · exact ⟨e, .inr rfl, .inr ⟨k2, .inr k1⟩⟩
  · rintro ⟨s, hs | hs, k⟩
    · exact .inl (.inl ⟨s, hs, k⟩)
    · subst hs
      rcases k with ⟨k1, k2 | k2⟩ | ⟨k1, k2 | k2⟩
      · exact .inl (.inr (.inl ⟨k1, k2⟩))
      · exact .inr (.inl ⟨k1, k2⟩)
      · exact .inl (.inr (.inr ⟨k2, k1⟩))
      · exact .inr (.inr ⟨k2, k1⟩)
theorem ef_del {S : Nat} {m : Nat} (hX : ∀ s, X s → s < S ∧ (g s).a ≠ (g s).b) (hm : X m) {E : Nat → Nat → Prop} (hE : ∀ x y, E x y ↔ EF S g X x y) :
    E (m + 1) (S + (g m).a + 1) ∧ E (m + 1) (S + (g m).b + 1) ∧ ∀ x y, cutE (cutE E (m + 1) (S + (g m).a + 1)) (m + 1) (S + (g m).b + 1) x y ↔ EF S g (fun s => X s ∧ s ≠ m) x y := by
  have hm1 := (hX m hm).1
  refine ⟨(hE _ _).2 ⟨m, hm, .inl ⟨rfl, .inl rfl⟩⟩, (hE _ _).2 ⟨m, hm, .inl ⟨rfl, .inr rfl⟩⟩, fun x y => ⟨?_, ?_⟩⟩
  · rintro ⟨⟨h1, h2, h3⟩, h4, h5⟩
    obtain ⟨s, hs, k⟩ := (hE x y).1 h1
    refine ⟨s, ⟨hs, fun c => ?_⟩, k⟩
    subst c
    rcases k with ⟨k1, k2 | k2⟩ | ⟨k1, k2 | k2⟩
    · exact h2 ⟨k1, k2⟩
    · exact h4 ⟨k1, k2⟩
    · exact h3 ⟨k2, k1⟩
    · exact h5 ⟨k2, k1⟩
  · rintro ⟨s, ⟨hs, hne⟩, k⟩
    have hs1 := (hX s hs).1
    refine ⟨⟨(hE x y).2 ⟨s, hs, k⟩, ?_, ?_⟩, ?_, ?_⟩
    · rintro ⟨h1, h2⟩; rcases k with ⟨k1, _⟩ | ⟨k1, k2 | k2⟩ <;> omega
    · rintro ⟨h1, h2⟩; rcases k with ⟨k1, k2 | k2⟩ | ⟨k1, k2⟩ <;> omega
    · rintro ⟨h1, h2⟩; rcases k with ⟨k1, _⟩ | ⟨k1, k2 | k2⟩ <;> omega
    · rintro ⟨h1, h2⟩; rcases k with ⟨k1, k2 | k2⟩ | ⟨k1, k2⟩ <;> omega
end
theorem cnt_more {P : Nat → Prop} {e n : Nat} (he : e < n) (h : ¬ P e) : cntP (fun s => P s ∨ s = e) n = cntP P n + 1 := by
  have e1 := cntP_sub (P := fun s => s = e) (Q := fun s => P s ∨ s = e) n fun x _ k => .inr k
  have e2 : cntP (fun s => s = e) n = 1 := cntP_one n he fun x _ => Iff.rfl
  have e3 : cntP (fun x => (P x ∨ x = e) ∧ ¬ x = e) n = cntP P n := cntP_congr n fun x _ => ⟨fun k => k.1.resolve_right k.2, fun k => ⟨.inl k, fun c => h (c ▸ k)⟩⟩
  omega
theorem cnt_less {P : Nat → Prop} {e n : Nat} (he : e < n) (h : P e) : cntP (fun s => P s ∧ s ≠ e) n + 1 = cntP P n := by
  have e1 := cntP_sub (P := fun s => s = e) (Q := P) n fun x _ k => by rw [k]; exact h
  have e2 : cntP (fun s => s = e) n = 1 := cntP_one n he fun x _ => Iff.rfl
  have e3 : cntP (fun x => P x ∧ ¬ x = e) n = cntP (fun s => P s ∧ s ≠ e) n := cntP_congr n fun x _ => Iff.rfl
  omega
end Go.Proofs.YtlooaipipmiijaaGreat

namespace Go.Proofs.YtlooaipipmiijaaGreat
set_option linter.unusedVariables false
set_option linter.unusedSimpArgs false
open Go.RowKit
section
variable {f : FoG} {g : Nat → GE} {L F : Nat → Prop}
theorem FoP0.put (h : FoP0 f g L F) {e a b : Nat} {ex : Int} (he : e < f.S) (ha : a < f.V) (hb : b < f.V) (hab : a ≠ b) (hx : ex ≤ 9223372036854775807) (hn : ¬ L e) (qg : HG) (col : Nat → Nat) :
    FoP0 { f with Q := ins ((e : Int), ex) f.Q, qg := qg, col := col, c := f.c + 1, fm := (fun j => if j = (e : Int) then some (edV a b ex false) else f.fm j) } (upF g e ⟨a, b, ex⟩) (fun s => L s ∨ s = e) F := by
  have hF : ¬ F e := fun k => hn (h.FL e k)
  have ne : ∀ s, L s → s ≠ e := fun s hs c => hn (c ▸ hs)
  refine ⟨fun s hs => ?_, fun s hs => .inl (h.FL s hs), fun x y => (h.eE x y).trans (ef_up hF x y).symm, fun s hs => ?_, h.kv, fun i => ?_, fun i k => ?_, h.tr, ?_, h.sz⟩
  · rcases hs with hs | hs
    · rw [uF_ne _ _ (ne s hs)]; exact h.ls s hs
    · rw [hs, uF_same]; exact ⟨he, ha, hb, hab, hx⟩
  · rw [uF_ne _ _ (ne s (h.FL s hs))]; exact h.ke s hs
  · show (if i = (e : Int) then some (edV a b ex false) else f.fm i) = _
    rw [h.fm i]
    refine fmF_up (s := e) ?_ (fun t ht => ⟨uF_ne _ _ ht, ⟨fun k => k.resolve_right ht, .inl⟩, Iff.rfl⟩) i
    rw [fmF_no (.inr rfl) hF, uF_same]
  · show (i, k) ∈ ins ((e : Int), ex) f.Q ↔ _
    rw [(ins_perm _ _).mem_iff, List.mem_cons]
    constructor
    · rintro (c | c)
      · injection c with c1 c2
        exact ⟨e, c1, .inr rfl, by rw [uF_same]; exact c2⟩
      · obtain ⟨s, h1, h2, h3⟩ := (h.que i k).1 c
        exact ⟨s, h1, .inl h2, by rw [uF_ne _ _ (ne s h2)]; exact h3⟩
    · rintro ⟨s, h1, h2 | h2, h3⟩
      · rw [uF_ne _ _ (ne s h2)] at h3
        exact .inr ((h.que i k).2 ⟨s, h1, h2, h3⟩)
      · rw [h2, uF_same] at h3
        exact .inl (by rw [h1, h3, h2])
  · show f.c + 1 = cntP (fun s => L s ∨ s = e) f.S
    rw [cnt_more he hn, h.c]
theorem FoP0.fasten (h : FoP0 f g L F) {e : Nat} (hL : L e) (hF : ¬ F e) (hc : ¬ Rch (Lnk g F) (g e).a (g e).b) :
    FoP0 { f with E := lnkE (lnkE f.E (e + 1) (f.S + (g e).a + 1)) (e + 1) (f.S + (g e).b + 1), key := (fun u => if u = e + 1 then (g e).exp else f.key u), fm := (fun j => if j = (e : Int) then some (edV (g e).a (g e).b (g e).exp true) else f.fm j), tr := f.tr + 1 } g L (fun s => F s ∨ s = e) := by
  have hes := (h.ls e hL).1
  refine ⟨h.ls, fun s hs => ?_, (ef_add (fun s hs => (h.ls s (h.FL s hs)).1) hes hF hc h.eE).2.2, fun s hs => ?_, fun v hv => ?_, fun i => ?_, h.que, ?_, h.c, h.sz⟩
  · rcases hs with hs | hs
    · exact h.FL s hs
    · rw [hs]; exact hL
  · show (if s + 1 = e + 1 then (g e).exp else f.key (s + 1)) = (g s).exp
    rcases hs with hs | hs
    · have : s ≠ e := fun c => hF (c ▸ hs)
      rw [if_neg (by omega)]; exact h.ke s hs
    · rw [hs, if_pos rfl]
  · show (if f.S + v + 1 = e + 1 then (g e).exp else f.key (f.S + v + 1)) = _
    rw [if_neg (by omega)]; exact h.kv v hv
  · show (if i = (e : Int) then some (edV (g e).a (g e).b (g e).exp true) else f.fm i) = _
    rw [h.fm i]
    exact fmF_up (s := e) (fmF_yes hL (.inr rfl)) (fun t ht => ⟨rfl, Iff.rfl, ⟨fun k => k.resolve_right ht, .inl⟩⟩) i
  · show f.tr + 1 = (cntP (fun s => F s ∨ s = e) f.S : Int)
    rw [cnt_more hes hF, h.tr]; omega
theorem FoP0.loosen (h : FoP0 f g L F) {m : Nat} (hF : F m) :
    FoP0 { f with E := cutE (cutE f.E (m + 1) (f.S + (g m).a + 1)) (m + 1) (f.S + (g m).b + 1), fm := (fun j => if j = (m : Int) then some (edV (g m).a (g m).b (g m).exp false) else f.fm j), tr := f.tr - 1 } g L (fun s => F s ∧ s ≠ m) := by
  have hL := h.FL m hF
  have hms := (h.ls m hL).1
  refine ⟨h.ls, fun s hs => h.FL s hs.1, (ef_del (fun s hs => ⟨(h.ls s (h.FL s hs)).1, (h.ls s (h.FL s hs)).2.2.2.1⟩) hF h.eE).2.2, fun s hs => h.ke s hs.1, h.kv, fun i => ?_, h.que, ?_, h.c, h.sz⟩
  · show (if i = (m : Int) then some (edV (g m).a (g m).b (g m).exp false) else f.fm i) = _
    rw [h.fm i]
    exact fmF_up (s := m) (fmF_no hL (fun k => k.2 rfl)) (fun t ht => ⟨rfl, Iff.rfl, ⟨fun k => k.1, fun k => ⟨k, ht⟩⟩⟩) i
  · show f.tr - 1 = (cntP (fun s => F s ∧ s ≠ m) f.S : Int)
    have := cnt_less hms hF
    rw [h.tr]; omega
theorem FoP0.drop (h : FoP0 f g L F) {e : Nat} {k : Int} {Q' : List Ent} (hQ : f.Q = ((e : Int), k) :: Q') (hs : Sorted f.Q) (hF : ¬ F e) (qg : HG) (col : Nat → Nat) :
    FoP0 { f with Q := Q', qg := qg, col := col, c := f.c - 1, fm := (fun j => if j = (e : Int) then none else f.fm j) } g (fun s => L s ∧ s ≠ e) F := by
  obtain ⟨e', h1, hL, h3⟩ := (h.que (e : Int) k).1 (by rw [hQ]; exact List.mem_cons_self)
  have : e' = e := by omega
  subst this
  have hes := (h.ls e' hL).1
  rw [hQ] at hs
  refine ⟨fun s hs => h.ls s hs.1, fun s hs => ⟨h.FL s hs, fun c => hF (c ▸ hs)⟩, h.eE, h.ke, h.kv, fun i => ?_, fun i j => ?_, h.tr, ?_, h.sz⟩
  · show (if i = (e' : Int) then none else f.fm i) = _
    rw [h.fm i]
    exact fmF_up (s := e') (fmF_out (fun k => k.2 rfl)) (fun t ht => ⟨rfl, ⟨fun k => k.1, fun k => ⟨k, ht⟩⟩, Iff.rfl⟩) i
  · show (i, j) ∈ Q' ↔ _
    have hm := h.que i j
    rw [hQ, List.mem_cons] at hm
    constructor
    · intro c
      obtain ⟨s, k1, k2, k3⟩ := hm.1 (.inr c)
      refine ⟨s, k1, ⟨k2, fun d => ?_⟩, k3⟩
      subst d
      have := (List.pairwise_cons.1 hs).1 _ c
      rw [k1, k3, h3] at this
      unfold elt at this
      simp at this
    · rintro ⟨s, k1, ⟨k2, k4⟩, k3⟩
      rcases hm.2 ⟨s, k1, k2, k3⟩ with c | c
      · injection c with c1 c2
        omega
      · exact c
  · show f.c - 1 = cntP (fun s => L s ∧ s ≠ e') f.S
    have := cnt_less hes hL
    rw [h.c]; omega
theorem FoP0.first (h : FoP0 f g L F) {e : Nat} {k : Int} {Q' : List Ent} (hQ : f.Q = ((e : Int), k) :: Q') (hs : Sorted f.Q) : L e ∧ k = (g e).exp ∧ ∀ s, L s → Nb g s e := by
  obtain ⟨e', h1, hL, h3⟩ := (h.que (e : Int) k).1 (by rw [hQ]; exact List.mem_cons_self)
  have : e' = e := by omega
  subst this
  refine ⟨hL, h3, fun s hs' => ?_⟩
  have hm := (h.que (s : Int) (g s).exp).2 ⟨s, rfl, hs', rfl⟩
  rw [hQ, List.mem_cons] at hm
  rcases hm with c | c
  · injection c with c1 c2
    have : s = e' := by omega
    subst this
    exact Nb.refl g s
  · rw [hQ] at hs
    have := (List.pairwise_cons.1 hs).1 _ c
    unfold elt at this
    simp only at this
    rw [h3] at this
    unfold Nb
    omega
end
end Go.Proofs.YtlooaipipmiijaaGreat

namespace Go.Proofs.YtlooaipipmiijaaGreat
set_option linter.unusedVariables false
set_option linter.unusedSimpArgs false
open Go.RowKit
structure FoTr (w : World) (b : Nat) (f : FoG) (g : Nat → GE) (L F' : Nat → Prop) (e : Ending) (w' : World) : Prop where
  val : e = .returned (.tuple #[])
  out : ∃ f', FoS b f w f' w' ∧ FoP0 f' g L F' ∧ f'.V = f.V ∧ f'.S = f.S ∧ f'.Q = f.Q ∧ f'.mb = f.mb ∧ f'.lp = f.lp ∧ f'.lg = f.lg ∧ f'.qb = f.qb
theorem fo_fastenP (w : World) (b : Nat) (f : FoG) (g : Nat → GE) (L F : Nat → Prop) (h : FoM w b f) (hp : FoP0 f g L F) {s : Nat} (hL : L s) (hF : ¬ F s) (hc : ¬ Rch (Lnk g F) (g s).a (g s).b) :
    Calls Tryz.prog 95 #[.pointer (some ⟨b, 0, none⟩), .int .i64 (s : Int)] w (FoTr w b f g L (fun t => F t ∨ t = s)) := by
  obtain ⟨h1, h2, h3, h4, h5⟩ := hp.ls s hL
  obtain ⟨e1, e2, _⟩ := ef_add (fun s hs => (hp.ls s (hp.FL s hs)).1) h1 hF hc hp.eE
  have hz := hp.sz
  have ht := hp.trb
  refine (fo_fasten w b f h s (g s).a (g s).b (g s).exp h1 h2 h3 h4 ((hp.fm s).trans (fmF_no hL hF)) e1 e2 (by omega) hp.cb (by omega)).mono ?_
  rintro e w' ⟨rfl, ho⟩
  exact ⟨rfl, _, ho, hp.fasten hL hF hc, rfl, rfl, rfl, rfl, rfl, rfl, rfl⟩
theorem fo_loosenP (w : World) (b : Nat) (f : FoG) (g : Nat → GE) (L F : Nat → Prop) (h : FoM w b f) (hp : FoP0 f g L F) {m : Nat} (hF : F m) :
    Calls Tryz.prog 57 #[.pointer (some ⟨b, 0, none⟩), .int .i64 (m : Int)] w (FoTr w b f g L (fun t => F t ∧ t ≠ m)) := by
  have hL := hp.FL m hF
  obtain ⟨h1, h2, h3, h4, h5⟩ := hp.ls m hL
  obtain ⟨e1, e2, _⟩ := ef_del (fun s hs => ⟨(hp.ls s (hp.FL s hs)).1, (hp.ls s (hp.FL s hs)).2.2.2.1⟩) hF hp.eE
  have hz := hp.sz
  have ht := hp.trb
  refine (fo_loosen w b f h m (g m).a (g m).b (g m).exp h1 h2 h3 h4 ((hp.fm m).trans (fmF_yes hL hF)) e1 e2 (by omega) hp.cb (by omega)).mono ?_
  rintro e w' ⟨rfl, ho⟩
  exact ⟨rfl, _, ho, hp.loosen hF, rfl, rfl, rfl, rfl, rfl, rfl, rfl⟩
structure FoMi (w : World) (b : Nat) (f : FoG) (g : Nat → GE) (F : Nat → Prop) (x y : Nat) (e : Ending) (w' : World) : Prop where
  yes : Rch (Lnk g F) x y → ∃ m : Nat, e = .returned (.tuple #[.int .i64 (m : Int), .bool true]) ∧ F m ∧ Rch (Lnk g fun t => F t ∧ Nb g t m) x y ∧ ¬ Rch (Lnk g fun t => F t ∧ t ≠ m) x y
  no : ¬ Rch (Lnk g F) x y → e = .returned (.tuple #[.int .i64 0, .bool false])
  st : FoS b f w f w'
theorem fo_min (w : World) (b : Nat) (f : FoG) (g : Nat → GE) (L F : Nat → Prop) (h : FoM w b f) (hp : FoP0 f g L F) {x y : Nat} (hx : x < f.V) (hy : y < f.V) (hxy : x ≠ y) :
    Calls Tryz.prog 64 #[.pointer (some ⟨f.lp, 0, none⟩), .int .i64 ((f.S + x : Nat) : Int), .int .i64 ((f.S + y : Nat) : Int)] w (FoMi w b f g F x y) := by
  obtain ⟨N, ed, h1, h2, h3⟩ := hp.fg h
  refine (lc_min w f.lp f.lg (f.S + f.V) f.E f.key N ed h1 h3 (f.S + x) (f.S + y) (by omega) (by omega)).mono ?_
  rintro e w' ⟨hyes, hno, ⟨N', ho1, ho2⟩, hmd⟩
  refine ⟨fun k => ?_, fun k => hno (fun c => k (hp.rch.1 c)), h.sLct (hmd.mono (fun k _ e => .inl e)) ⟨N', ed, ho1, ho2⟩⟩
  obtain ⟨m, hw, he⟩ := hyes (hp.rch.2 k)
  have hE : f.E = EF f.S g F := funext fun x => funext fun y => propext (hp.eE x y)
  rw [hE] at hw
  obtain ⟨s, q1, q2, q3, q4⟩ := h2.way ⟨hp.ke, hp.kv⟩ hx hy hxy hw
  obtain rfl : m = s := by omega
  exact ⟨m, he, q2, q3, q4⟩
end Go.Proofs.YtlooaipipmiijaaGreat

namespace Go.Proofs.YtlooaipipmiijaaGreat
set_option linter.unusedVariables false
set_option linter.unusedSimpArgs false
open Go.RowKit
structure FoAd (w : World) (b : Nat) (f : FoG) (g : Nat → GE) (L : Nat → Prop) (s x y : Nat) (ex : Int) (e : Ending) (w' : World) : Prop where
  val : e = .returned (.int .i64 0)
  out : ∃ f' F', FoS b f w f' w' ∧ FoP f' (upF g s ⟨x, y, ex⟩) (fun t => L t ∨ t = s) F' ∧ f'.V = f.V ∧ f'.S = f.S ∧ f'.Q = ins ((s : Int), ex) f.Q
theorem FoS.drew {b : Nat} {f f1 : FoG} {w w1 : World} (h : FoS b f w f1 w1) : FoS b f w f1 w1.drew := h.below ((Below.refl _ _).drew)
theorem fs_keep {b : Nat} {f f1 : FoG} {w w1 : World} (h : FoS b f w f1 w1) : w1.cell? ⟨b, 1, none⟩ = some (.int .i64 (f1.S : Int)) ∧ w1.cell? ⟨b, 2, none⟩ = some (.pointer (some ⟨f1.lp, 0, none⟩)) ∧ FoS b f w f1 w1 := ⟨h.mem.s1, h.mem.s2, h⟩
set_option maxHeartbeats 2000000 in
set_option maxRecDepth 100000 in
theorem fo_add (w : World) (b : Nat) (f : FoG) (g : Nat → GE) (L F : Nat → Prop) (h : FoM w b f) (hp : FoP f g L F) (s x y : Nat) (ex : Int) (hs : s < f.S) (hx : x < f.V) (hy : y < f.V) (hxy : x ≠ y) (hex : ex ≤ 9223372036854775807) (hn : ¬ L s) :
    Calls Tryz.prog 52 #[.pointer (some ⟨b, 0, none⟩), .int .i64 (s : Int), .int .i64 (x : Int), .int .i64 (y : Int), .int .i64 ex] w (FoAd w b f g L s x y ex) := by
  have H := Lib.hid h
  have HP := Lib.hid hp
  have HN := Lib.hid hn
  have hsz := hp.sz
  have HV := Lib.hid (fo_valid b f.mb w h.s4)
  have HA := Lib.hid (fo_has b f.mb f.V x w h.s4 h.s0 hx)
  have HB := Lib.hid (fo_has b f.mb f.V y w h.s4 h.s0 hy)
  have hno : f.fm (s : Int) = none := by rw [hp.fm]; exact fmF_out hn
  have HNO := Lib.hid hno
  have hlk := h.map.look_ok Tryz.underlying3 Tryz.underlying113 (Tryz.zeroEdge w) (i := (s : Int)) (wf_i64K (by omega) (by omega))
  rw [hno] at hlk
  have hlk2 : (Instr.lookup 113 (.map (some f.mb)) (.int .i64 (s : Int)) true).run Tryz.prog w = .ok (.tuple #[.agg #[.int .i64 0, .int .i64 0, .int .i64 0, .bool false], .bool false]) w := hlk
  have c1 := h.s1
  have c4 := h.s4
  have t1 : decide ((s : Int) < 0) = false := decide_eq_false (by omega)
  have t2 : decide ((f.S : Int) ≤ (s : Int)) = false := decide_eq_false (by omega)
  have t3 : ((x : Int) == (y : Int)) = false := by rw [beq_eq_false_iff_ne]; omega
  have t2' : decide (f.S ≤ s) = false := decide_eq_false (by omega)
  have t3' : decide (x = y) = false := decide_eq_false hxy
  have HX := Lib.hid hxy
  have HEX := Lib.hid hex
  clear h hp hn hlk hno hex
  go_enter Tryz.func52, Tryz.ntmps52
  go_upto_region 10 with (first | (go_at_call 55; refine HV.out.mono ?_; rintro e w' ⟨rfl, rfl⟩) | (go_at_call 63; (first | (with_reducible refine HA.out.mono ?_) | (with_reducible refine HB.out.mono ?_)); rintro e w' ⟨rfl, rfl⟩))
  have HI1 := Lib.hid ((FoS.refl H.out).below (bel_alloc w (.cells #[.int .i64 0, .int .i64 0, .int .i64 0, .bool false] 117)))
  generalize w.alloc (.cells #[.int .i64 0, .int .i64 0, .int .i64 0, .bool false] 117) = w1 at *
  clear hlk2 c1 c4 t1 t2 t3 t2' t3' HV HA HB
  have hbz : ∀ W, (Instr.build 117 #[(0, .int .i64 (x : Int)), (1, .int .i64 (y : Int)), (2, .int .i64 ex)]).run Tryz.prog W = .ok (.agg #[.int .i64 (x : Int), .int .i64 (y : Int), .int .i64 ex, .bool false]) W := fun W => by kernel_rfl
  have c3 := HI1.out.mem.s3
  have HPU := Lib.hid (push_ok w1 f.qb f.S f.Q f.qg HI1.out.mem.que s ex hs (fun e he => by
    obtain ⟨t, k1, k2, k3⟩ := (HP.out.que e.1 e.2).1 he
    rw [k1]
    exact fun k => HN.out (by rw [show s = t by omega]; exact k2)))
  go_upto_region 11 with (go_at_call 94; refine HPU.out.mono ?_; rintro e w2 ⟨rfl, g2, ho, hmd, hft⟩; have HI2 := Lib.hid (HI1.out.trans (HI1.out.mem.sQue hmd ho hft)); clear ho hmd hft)
  clear c3 HPU HI1
  have c4 := HI2.out.mem.s4
  have hcb := HP.out.cb
  go_upto_region 12 with (at_mapUpdate; refine wpList_storeK rfl _ _ _ rfl Tryz.underlying3 Tryz.underlying113 rfl HI2.out.mem.map hcb (i := (s : Int)) (wf_i64K (by omega) (by omega)) (c' := f.c + 1) (by show (if (f.fm (s : Int)).isSome then _ else _) = _; rw [HNO.out]; rfl) (edV x y ex false) rfl rfl ?_; intro w3 hmk hmd; have HI3 := Lib.hid (HI2.out.trans (HI2.out.mem.sMap hmd hmk)); clear hmk hmd)
  obtain ⟨f3, HI3', HP3, HV3, HS3, HQ3, HG3⟩ : ∃ f3, Hid (FoS b f w f3 w3) ∧ Hid (FoP0 f3 (upF g s ⟨x, y, ex⟩) (fun t => L t ∨ t = s) F) ∧ Hid (f3.V = f.V) ∧ Hid (f3.S = f.S) ∧ Hid (f3.Q = ins ((s : Int), ex) f.Q) ∧ Hid (Span (upF g s ⟨x, y, ex⟩) L F) :=
    ⟨_, HI3, HP.out.toFoP0.put hs hx hy HX.out HEX.out HN.out g2 _, rfl, rfl, rfl, span_up HP.out.span HN.out (fun k => HN.out (HP.out.FL s k))⟩
  have HGS : Hid (upF g s ⟨x, y, ex⟩ s = ⟨x, y, ex⟩) := uF_same _ _ _
  have HGN : Hid (∀ t, t ≠ s → upF g s ⟨x, y, ex⟩ t = g t) := fun t ht => uF_ne _ _ ht
  have HNF : Hid (¬ F s) := fun k => HN.out (HP.out.FL s k)
  clear HI3 c4 hcb hbz HI2
  rw [← HV3.out] at hx hy
  rw [← HS3.out] at hs
  have hsz3 : f3.S ≤ 16384 ∧ f3.V ≤ 4096 := by rw [HV3.out, HS3.out]; exact hsz
  generalize hGG : upF g s ⟨x, y, ex⟩ = G at *
  have HGG := Lib.hid hGG
  clear hGG hsz
  have hwx : IntKind.i64.wrap ((f3.S : Int) + (x : Int)) = ((f3.S + x : Nat) : Int) := by rw [IntWalk.i64_in _ (by omega)]; omega
  have hwy : IntKind.i64.wrap ((f3.S : Int) + (y : Int)) = ((f3.S + y : Nat) : Int) := by rw [IntWalk.i64_in _ (by omega)]; omega
  go_frame
  go_cut [13, 14] (fun s13 s14 wx => FoS b f w f3 wx ∧ ((Rch (Lnk G F) x y ∧ ∃ m : Nat, s13 = .int .i64 (m : Int) ∧ s14 = .bool true ∧ F m ∧ Rch (Lnk G fun t => F t ∧ Nb G t m) x y ∧ ¬ Rch (Lnk G fun t => F t ∧ t ≠ m) x y) ∨ (¬ Rch (Lnk G F) x y ∧ s13 = .int .i64 0 ∧ s14 = .bool false)))
  case first =>
    by_cases hc : Rch (Lnk G F) x y
    · have HC := Lib.hid hc
      clear hc
      go_region_held3 (fun w' => w'.cell? ⟨b, 1, none⟩ = some (.int .i64 (f3.S : Int)) ∧ w'.cell? ⟨b, 2, none⟩ = some (.pointer (some ⟨f3.lp, 0, none⟩)) ∧ FoS b f w f3 w')
        (((try go_split_ands); refine fs_keep ?_; first | assumption | exact HI3'.out | exact (FoS.drew HI3'.out) | exact FoS.drew (by assumption)))
        ((go_at_call 64; (try go_split_ands); refine (fo_min _ b f3 G (fun t => L t ∨ t = s) F (FoS.mem (show FoS b f w f3 _ by assumption)) HP3.out hx hy hxy).mono ?_; rintro e w5 ⟨hyes, hno, hst⟩; obtain ⟨m, rfl, hfm, hr1, hr2⟩ := hyes HC.out; have hI5 := FoS.trans (by assumption) hst; clear hyes hno hst))
      go_wp2_with fail
      go_meet
      exact ⟨by assumption, .inl ⟨HC.out, m, rfl, rfl, hfm, hr1, hr2⟩⟩
    · have HC := Lib.hid hc
      clear hc
      go_region_held3 (fun w' => w'.cell? ⟨b, 1, none⟩ = some (.int .i64 (f3.S : Int)) ∧ w'.cell? ⟨b, 2, none⟩ = some (.pointer (some ⟨f3.lp, 0, none⟩)) ∧ FoS b f w f3 w')
        (((try go_split_ands); refine fs_keep ?_; first | assumption | exact HI3'.out | exact (FoS.drew HI3'.out) | exact FoS.drew (by assumption)))
        ((go_at_call 64; (try go_split_ands); refine (fo_min _ b f3 G (fun t => L t ∨ t = s) F (FoS.mem (show FoS b f w f3 _ by assumption)) HP3.out hx hy hxy).mono ?_; rintro e w5 ⟨hyes, hno, hst⟩; obtain rfl := hno HC.out; have hI5 := FoS.trans (by assumption) hst; clear hyes hno hst))
      go_wp2_with fail
      go_meet
      exact ⟨by assumption, .inr ⟨HC.out, rfl, rfl⟩⟩
  case rest =>
    obtain ⟨hst, ⟨hc, m, rfl, rfl, hfm, hr1, hr2⟩ | ⟨hc, rfl, rfl⟩⟩ := hcut
    · have HI5 := Lib.hid hst
      have HFM := Lib.hid hfm
      have HR1 := Lib.hid hr1
      have HR2 := Lib.hid hr2
      have HMS : Hid (m ≠ s) := fun k => HNF.out (by rw [← k]; exact hfm)
      have hLm := HP.out.FL m hfm
      have hms := (HP.out.ls m hLm).1
      have hmm : f3.fm (m : Int) = some (edV (g m).a (g m).b (g m).exp true) := by rw [HP3.out.fm, fmF_yes (.inl hLm) hfm, HGN.out m HMS.out]
      have HGM := Lib.hid (HGN.out m HMS.out)
      have hlk := HI5.out.mem.map.look Tryz.underlying3 Tryz.underlying113 (Tryz.zeroEdge wc) (i := (m : Int)) (wf_i64K (by omega) (by have := HS3.out; omega))
      rw [hmm] at hlk
      have HNB : Hid ((ex < (g m).exp ∨ ex = (g m).exp ∧ s < m) → Nb G m s) := by
        show _ → _
        intro k
        unfold Nb
        rw [HGM.out, HGS.out]
        show ex < (g m).exp ∨ ex = (g m).exp ∧ s ≤ m
        omega
      have HNS : Hid (((g m).exp < ex ∨ ex = (g m).exp ∧ m < s) → Nb G s m) := by
        show _ → _
        intro k
        unfold Nb
        rw [HGM.out, HGS.out]
        show (g m).exp < ex ∨ (g m).exp = ex ∧ m ≤ s
        omega
      generalize hga : (g m).a = ga at *
      generalize hgb : (g m).b = gb at *
      generalize hgx : (g m).exp = gx at *
      have hlk2 : (Instr.lookup 113 (.map (some f3.mb)) (.int .i64 (m : Int)) false).run Tryz.prog wc = .ok (.agg #[.int .i64 (ga : Int), .int .i64 (gb : Int), .int .i64 gx, .bool true]) wc := hlk
      have c4 := HI5.out.mem.s4
      have HBX : Hid (Below wc.heap.size wc (wc.alloc (.cells #[.int .i64 (ga : Int), .int .i64 (gb : Int), .int .i64 gx, .bool true] 117))) := bel_alloc wc _
      clear hst hfm hr1 hr2 hc hlk hmm hLm hga hgb hgx
      go_upto_region 15 with fail
      clear hlk2 c4
      have z2 := (Blk.new wc 117 [.int .i64 (ga : Int), .int .i64 (gb : Int), .int .i64 gx, .bool true]).cell (i := 2) rfl
      simp only [List.toArray] at z2
      generalize wc.alloc (.cells #[.int .i64 (ga : Int), .int .i64 (gb : Int), .int .i64 gx, .bool true] 117) = w6 at *
      rcases Int.lt_trichotomy ex gx with hA | hA | hA
      · have ta : decide (ex < gx) = true := decide_eq_true hA
        have HAA := Lib.hid hA
        go_wp2_with fail
        go_ret
        refine ⟨rfl, f3, F, HI5.out.below HBX.out, ?_, HV3.out, HS3.out, HQ3.out⟩
        rw [HGG.out]
        exact ⟨HP3.out, HG3.out.skip (HNB.out (.inl HAA.out)) (by rw [HGS.out]; exact HR1.out)⟩
      · subst hA
        by_cases hB : s < m
        · have ta : decide (ex < ex) = false := decide_eq_false (by omega)
          have tb : (ex == ex) = true := beq_self_eq_true _
          have tc : decide ((s : Int) < (m : Int)) = true := decide_eq_true (by omega)
          have tc' : decide (s < m) = true := decide_eq_true hB
          have HBB := Lib.hid hB
          go_wp2_with fail
          go_ret
          refine ⟨rfl, f3, F, HI5.out.below HBX.out, ?_, HV3.out, HS3.out, HQ3.out⟩
          rw [HGG.out]
          exact ⟨HP3.out, HG3.out.skip (HNB.out (by first | exact .inr ⟨rfl, HBB.out⟩ | exact .inr ⟨trivial, HBB.out⟩)) (by rw [HGS.out]; exact HR1.out)⟩
        · have ta : decide (ex < ex) = false := decide_eq_false (by omega)
          have tb : (ex == ex) = true := beq_self_eq_true _
          have tc : decide ((s : Int) < (m : Int)) = false := decide_eq_false (by omega)
          have tc' : decide (s < m) = false := decide_eq_false hB
          have HBB : Hid (m < s) := by have := HMS.out; show m < s; omega
          have HLO := Lib.hid (fo_loosenP _ b f3 G (fun t => L t ∨ t = s) F (HI5.out.below HBX.out).mem HP3.out HFM.out)
          go_upto_region 18 with (go_at_call 57; refine HLO.out.mono ?_; rintro e w7 ⟨rfl, f7, h1, h2, h3, h4, h5, _⟩; have HI7 := Lib.hid ((HI5.out.below HBX.out).trans h1); have HP7 := Lib.hid h2; have HE7 := Lib.hid (And.intro h3 (And.intro h4 h5)); clear h1 h2 h3 h4 h5)
          have HFA := Lib.hid (fo_fastenP w7 b f7 G (fun t => L t ∨ t = s) (fun t => F t ∧ t ≠ m) HI7.out.mem HP7.out (.inr rfl) (fun k => HNF.out k.1) (by rw [HGS.out]; exact HR2.out))
          go_wp2_with (go_at_call 95; refine HFA.out.mono ?_; rintro e w9 ⟨rfl, f9, h1, h2, h3, h4, h5, _⟩; have HI9 := Lib.hid (HI7.out.trans h1); have HP9 := Lib.hid h2; have HE9 := Lib.hid (And.intro h3 (And.intro h4 h5)); clear h1 h2 h3 h4 h5)
          go_ret
          obtain ⟨k1, k2, k3⟩ := HE9.out
          obtain ⟨l1, l2, l3⟩ := HE7.out
          refine ⟨rfl, f9, fun t => (F t ∧ t ≠ m) ∨ t = s, HI9.out, ?_, (k1.trans l1).trans HV3.out, (k2.trans l2).trans HS3.out, (k3.trans l3).trans HQ3.out⟩
          rw [HGG.out]
          exact ⟨HP9.out, (HG3.out.swap (HNS.out (by first | exact .inr ⟨rfl, HBB.out⟩ | exact .inr ⟨trivial, HBB.out⟩)) HMS.out.symm (by rw [HGS.out]; exact HR1.out) (by rw [HGS.out]; exact HR2.out)).1⟩
      · have ta : decide (ex < gx) = false := decide_eq_false (by omega)
        have tb : (gx == ex) = false := by rw [beq_eq_false_iff_ne]; omega
        have tb' : decide (gx = ex) = false := decide_eq_false (by omega)
        have HAA := Lib.hid hA
        have HLO := Lib.hid (fo_loosenP _ b f3 G (fun t => L t ∨ t = s) F (HI5.out.below HBX.out).mem HP3.out HFM.out)
        go_upto_region 18 with (go_at_call 57; refine HLO.out.mono ?_; rintro e w7 ⟨rfl, f7, h1, h2, h3, h4, h5, _⟩; have HI7 := Lib.hid ((HI5.out.below HBX.out).trans h1); have HP7 := Lib.hid h2; have HE7 := Lib.hid (And.intro h3 (And.intro h4 h5)); clear h1 h2 h3 h4 h5)
        have HFA := Lib.hid (fo_fastenP w7 b f7 G (fun t => L t ∨ t = s) (fun t => F t ∧ t ≠ m) HI7.out.mem HP7.out (.inr rfl) (fun k => HNF.out k.1) (by rw [HGS.out]; exact HR2.out))
        go_wp2_with (go_at_call 95; refine HFA.out.mono ?_; rintro e w9 ⟨rfl, f9, h1, h2, h3, h4, h5, _⟩; have HI9 := Lib.hid (HI7.out.trans h1); have HP9 := Lib.hid h2; have HE9 := Lib.hid (And.intro h3 (And.intro h4 h5)); clear h1 h2 h3 h4 h5)
        go_ret
        obtain ⟨k1, k2, k3⟩ := HE9.out
        obtain ⟨l1, l2, l3⟩ := HE7.out
        refine ⟨rfl, f9, fun t => (F t ∧ t ≠ m) ∨ t = s, HI9.out, ?_, (k1.trans l1).trans HV3.out, (k2.trans l2).trans HS3.out, (k3.trans l3).trans HQ3.out⟩
        rw [HGG.out]
        exact ⟨HP9.out, (HG3.out.swap (HNS.out (.inl HAA.out)) HMS.out.symm (by rw [HGS.out]; exact HR1.out) (by rw [HGS.out]; exact HR2.out)).1⟩
    · have HI5 := Lib.hid hst
      have HC := Lib.hid hc
      clear hst hc
      go_upto_region 18 with fail
      have HFA := Lib.hid (fo_fastenP wc b f3 G (fun t => L t ∨ t = s) F HI5.out.mem HP3.out (.inr rfl) HNF.out (by rw [HGS.out]; exact HC.out))
      go_wp2_with (go_at_call 95; refine HFA.out.mono ?_; rintro e w9 ⟨rfl, f9, h1, h2, h3, h4, h5, _⟩; have HI9 := Lib.hid (HI5.out.trans h1); have HP9 := Lib.hid h2; have HE9 := Lib.hid (And.intro h3 (And.intro h4 h5)); clear h1 h2 h3 h4 h5)
      go_ret
      obtain ⟨k1, k2, k3⟩ := HE9.out
      refine ⟨rfl, f9, fun t => F t ∨ t = s, HI9.out, ?_, k1.trans HV3.out, k2.trans HS3.out, k3.trans HQ3.out⟩
      rw [HGG.out]
      exact ⟨HP9.out, HG3.out.add s⟩
end Go.Proofs.YtlooaipipmiijaaGreat
