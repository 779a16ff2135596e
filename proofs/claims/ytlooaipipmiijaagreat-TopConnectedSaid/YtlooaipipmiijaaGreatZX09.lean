/- Several texts in one: TpE, ArA, ArB. -/
import Derived.Test.YtlooaipipmiijaaGreatZX03
import Derived.Test.YtlooaipipmiijaaGreatZX05
import Derived.Test.YtlooaipipmiijaaGreatZX08
import Derived.Test.YtlooaipipmiijaaGreatProg
namespace Go.Proofs.YtlooaipipmiijaaGreat
set_option linter.unusedVariables false
set_option linter.unusedSimpArgs false
def EF (S : Nat) (g : Nat → GE) (F : Nat → Prop) (x y : Nat) : Prop :=
  ∃ s, F s ∧ ((x = s + 1 ∧ (y = S + (g s).a + 1 ∨ y = S + (g s).b + 1)) ∨ (y = s + 1 ∧ (x = S + (g s).a + 1 ∨ x = S + (g s).b + 1)))
theorem EF.mono {S : Nat} {g : Nat → GE} {F G : Nat → Prop} (h : ∀ s, F s → G s) : ∀ x y, EF S g F x y → EF S g G x y := fun x y ⟨s, k, e⟩ => ⟨s, h s k, e⟩
theorem ef_rch {S : Nat} {g : Nat → GE} {F : Nat → Prop} (hF : ∀ s, F s → s < S) {u v : Nat} : Rch (EF S g F) (S + u + 1) (S + v + 1) ↔ Rch (Lnk g F) u v := by
  constructor
  · intro k
    have := k.stay (S := fun y => (∀ w, y = S + w + 1 → Rch (Lnk g F) u w) ∧ (∀ s, y = s + 1 → s < S → Rch (Lnk g F) u (g s).a ∧ Rch (Lnk g F) u (g s).b)) (fun x y ⟨h1, h2⟩ ⟨s, hs, e⟩ => by
      have hsS := hF s hs
      have step : ∀ w w', ((g s).a = w ∧ (g s).b = w' ∨ (g s).a = w' ∧ (g s).b = w) → Lnk g F w w' := fun w w' e => ⟨s, hs, e⟩
      rcases e with ⟨e1, e2⟩ | ⟨e1, e2⟩
      · obtain ⟨ra, rb⟩ := h2 s e1 hsS
        refine ⟨fun w hw => ?_, fun s' h' hs' => ?_⟩
        · rcases e2 with e2 | e2
          · rw [show w = (g s).a by omega]; exact ra
          · rw [show w = (g s).b by omega]; exact rb
        · rcases e2 with e2 | e2 <;> omega
      · refine ⟨fun w hw => by omega, fun s' h' hs' => ?_⟩
        have : s' = s := by omega
        subst this
        rcases e2 with e2 | e2
        · have := h1 _ e2
          exact ⟨this, .step this (step _ _ (.inl ⟨rfl, rfl⟩))⟩
        · have := h1 _ e2
          exact ⟨.step this (step _ _ (.inr ⟨rfl, rfl⟩)), this⟩)
      ⟨fun w hw => by rw [show w = u by omega]; exact .refl, fun s hs hsS => by omega⟩
    exact this.1 v rfl
  · intro k
    induction k with
    | refl => exact .refl
    | step _ e ih =>
      obtain ⟨s, hs, e⟩ := e
      rcases e with ⟨e1, e2⟩ | ⟨e1, e2⟩
      · subst e1 e2
        exact .step (.step ih ⟨s, hs, .inr ⟨rfl, .inl rfl⟩⟩) ⟨s, hs, .inl ⟨rfl, .inr rfl⟩⟩
      · subst e1 e2
        exact .step (.step ih ⟨s, hs, .inr ⟨rfl, .inr rfl⟩⟩) ⟨s, hs, .inl ⟨rfl, .inl rfl⟩⟩
theorem Rch.lastE {E : Nat → Nat → Prop} {a b : Nat} (h : Rch E a b) (hne : a ≠ b) : ∃ y, Rch E a y ∧ E y b := by
  cases h with
  | refl => exact absurd rfl hne
  | step h k => exact ⟨_, h, k⟩
def Acyc (g : Nat → GE) (F : Nat → Prop) : Prop := ∀ m, F m → ¬ Rch (Lnk g fun s => F s ∧ s ≠ m) (g m).a (g m).b
structure FG (S V : Nat) (g : Nat → GE) (F : Nat → Prop) (N : NS) : Prop where
  fs : ∀ s, F s → s < S ∧ (g s).a < V ∧ (g s).b < V ∧ (g s).a ≠ (g s).b ∧ (g s).exp ≤ 9223372036854775807
  lg : ∃ key, LG (S + V) (EF S g F) key N ∧ (∀ s, F s → key (s + 1) = (g s).exp) ∧ ∀ v, v < V → key (S + v + 1) = 9223372036854775807
section
variable {S V : Nat} {g : Nat → GE} {F : Nat → Prop} {N : NS}
theorem FG.acyc (h : FG S V g F N) : Acyc g F := by
  intro m hm k
  obtain ⟨hmS, haV, hbV, hab, _⟩ := h.fs m hm
  obtain ⟨key, ⟨T, par, pk, d, li, he, _⟩, _⟩ := h.lg
  have va : VV (S + V) (S + (g m).a + 1) := ⟨by omega, by omega⟩
  have vb : VV (S + V) (S + (g m).b + 1) := ⟨by omega, by omega⟩
  have vm : VV (S + V) (m + 1) := ⟨by omega, by omega⟩
  have ea := ((he (m + 1) (S + (g m).a + 1)).1 ⟨m, hm, .inl ⟨rfl, .inl rfl⟩⟩).2.2
  have eb := ((he (m + 1) (S + (g m).b + 1)).1 ⟨m, hm, .inl ⟨rfl, .inr rfl⟩⟩).2.2
  have k' : Rch (EF S g fun s => F s ∧ s ≠ m) (S + (g m).a + 1) (S + (g m).b + 1) := (ef_rch (fun s hs => (h.fs s hs.1).1)).2 k
  have main : ∀ a b, VV (S + V) a → VV (S + V) b → a ≠ b → S < a → par a = m + 1 → (par (m + 1) = b ∨ par b = m + 1) → ¬ Rch (EF S g fun s => F s ∧ s ≠ m) a b := by
    intro a b va vb hab haS hpa hb k
    have := k.stay (S := fun x => Anc par a x) (fun x y hx e => by
      obtain ⟨s, hs, e⟩ := e
      have e2 : EF S g F x y := ⟨s, hs.1, e⟩
      obtain ⟨v1, v2, e3⟩ := (he x y).1 e2
      rcases e3 with e3 | e3
      · cases hx with
        | refl =>
          rw [hpa] at e3
          rcases e with ⟨e4, _⟩ | ⟨e4, _⟩
          · have := (h.fs s hs.1).1; omega
          · exact absurd (show s = m by omega) hs.2
        | up _ k => rw [e3] at k; exact k
      · exact .up (by rw [e3]; have := v1.1; omega) (by rw [e3]; exact hx)) .refl
    have hma : Anc par (m + 1) a := .up (by rw [hpa]; omega) (by rw [hpa]; exact .refl)
    have hmm : Anc par a (m + 1) := by
      rcases hb with hb | hb
      · exact .up (by rw [hb]; have := vb.1; omega) (by rw [hb]; exact this)
      · cases this with
        | refl => exact absurd rfl hab
        | up _ k => rw [hb] at k; exact k
    have := (li.rk.anc hmm vm).2
    have := (li.rk.anc hma va).2
    omega
  have hne : S + (g m).a + 1 ≠ S + (g m).b + 1 := by omega
  rcases ea with ea | ea
  · rcases eb with eb | eb
    · rw [ea] at eb; exact hne eb
    · exact main _ _ vb va hne.symm (by omega) eb (.inl ea) (k'.symm fun x y ⟨s, hs, e⟩ => ⟨s, hs, e.elim (fun e => .inr e) (fun e => .inl e)⟩)
  · exact main _ _ va vb hne (by omega) ea (eb.elim .inl .inr) k'
theorem FG.way (h : FG S V g F N) {key : Nat → Int} (hk : (∀ s, F s → key (s + 1) = (g s).exp) ∧ ∀ v, v < V → key (S + v + 1) = 9223372036854775807) {u v m : Nat} (hu : u < V) (hv : v < V) (huv : u ≠ v) (w : Way (S + V) (EF S g F) key (S + u + 1) (S + v + 1) m) :
    ∃ s, m = s + 1 ∧ F s ∧ Rch (Lnk g fun t => F t ∧ Nb g t s) u v ∧ ¬ Rch (Lnk g fun t => F t ∧ t ≠ s) u v := by
  obtain ⟨k1, k2⟩ := hk
  have hm : m ≤ S := by
    obtain ⟨y, _, ⟨s, hs, e⟩, e1, _⟩ := w.conn.lastE (by omega)
    have hsS := h.fs s hs
    rcases e with ⟨e3, _⟩ | ⟨e3, _⟩
    · by_cases c : m ≤ S
      · exact c
      · exfalso
        obtain ⟨w', hw'⟩ : ∃ w', m = S + w' + 1 := ⟨m - S - 1, by omega⟩
        have hw2 : w' < V := by have := w.vm.2; omega
        rw [hw', k2 w' hw2, e3, k1 s hs] at e1
        have := hsS.2.2.2.2
        have := hsS.1
        omega
    · omega
  obtain ⟨s, rfl⟩ : ∃ s, m = s + 1 := ⟨m - 1, by have := w.vm.1; omega⟩
  have hsep := w.sep (by omega) (by omega)
  have hF : F s := by
    refine Classical.byContradiction fun c => hsep ?_
    exact w.conn.mono fun x y ⟨⟨t, ht, e⟩, _⟩ => by
      have htS := h.fs t ht
      have hts : t ≠ s := fun e => c (e ▸ ht)
      refine ⟨⟨t, ht, e⟩, ?_, ?_⟩
      · rcases e with ⟨e1, e2 | e2⟩ | ⟨e1, e2 | e2⟩ <;> omega
      · rcases e with ⟨e1, e2 | e2⟩ | ⟨e1, e2 | e2⟩ <;> omega
  refine ⟨s, rfl, hF, ?_, fun k => hsep ?_⟩
  · refine (ef_rch (S := S) (fun t ht => (h.fs t ht.1).1)).1 (w.conn.mono fun x y ⟨⟨t, ht, e⟩, e1, e2⟩ => ?_)
    refine ⟨t, ⟨ht, ?_⟩, e⟩
    have nb : ¬ (key (t + 1) < key (s + 1) ∨ key (t + 1) = key (s + 1) ∧ t + 1 < s + 1) := by
      rcases e with ⟨e3, _⟩ | ⟨e3, _⟩
      · rw [e3] at e1; exact e1
      · rw [e3] at e2; exact e2
    rw [k1 t ht, k1 s hF] at nb
    unfold Nb; omega
  · exact ((ef_rch (S := S) (fun t ht => (h.fs t ht.1).1)).2 k).mono fun x y ⟨t, ht, e⟩ => by
      have htS := h.fs t ht.1
      refine ⟨⟨t, ht.1, e⟩, ?_, ?_⟩
      · rcases e with ⟨e1, e2 | e2⟩ | ⟨e1, e2 | e2⟩ <;> (have := ht.2; omega)
      · rcases e with ⟨e1, e2 | e2⟩ | ⟨e1, e2 | e2⟩ <;> (have := ht.2; omega)
end
theorem parts_forest {S V : Nat} {g : Nat → GE} {F : Nat → Prop} (hF : ∀ s, F s → (g s).a < V ∧ (g s).b < V) (ha : Acyc g F) : ∀ k, parts V (Rch (Lnk g fun s => F s ∧ s < k)) + cntP F k = V
  | 0 => by rw [parts_none V fun s h => absurd h.2 (Nat.not_lt_zero s)]; rfl
  | k + 1 => by
    have ih := parts_forest (S := S) hF ha k
    unfold cntP
    by_cases c : F k
    · rw [if_pos c]
      have e : parts V (Rch (Lnk g fun s => F s ∧ s < k + 1)) = parts V (Rch (Lnk g fun s => (F s ∧ s < k) ∨ s = k)) := parts_congr fun u v _ _ =>
        ⟨fun h => h.mono (Lnk.mono fun s h => by
          by_cases c : s = k
          · exact .inr c
          · exact .inl ⟨h.1, by omega⟩), fun h => h.mono (Lnk.mono fun s h => by
          rcases h with h | h
          · exact ⟨h.1, by omega⟩
          · subst h; exact ⟨c, by omega⟩)⟩
      have := parts_add (n := V) (g := g) (X := fun s => F s ∧ s < k) (m := k) (hF k c).1 (hF k c).2 fun h => ha k c (h.mono (Lnk.mono fun s h => ⟨h.1, by omega⟩))
      rw [e]; omega
    · rw [if_neg c]
      have e : parts V (Rch (Lnk g fun s => F s ∧ s < k + 1)) = parts V (Rch (Lnk g fun s => F s ∧ s < k)) := parts_congr fun u v _ _ =>
        ⟨fun h => h.mono (Lnk.mono fun s h => ⟨h.1, by
          by_cases e : s = k
          · subst e; exact absurd h.1 c
          · omega⟩), fun h => h.mono (Lnk.mono fun s h => ⟨h.1, by omega⟩)⟩
      rw [e]; omega
theorem part_edges {S V : Nat} {g : Nat → GE} {F : Nat → Prop} (hF : ∀ s, F s → s < S ∧ (g s).a < V ∧ (g s).b < V) (ha : Acyc g F) {u : Nat} (hu : u < V) :
    cntP (fun s => F s ∧ Rch (Lnk g F) u (g s).a) S + 1 = cntP (fun v => Rch (Lnk g F) u v) V := by
  have hG : ∀ m, (F m ∧ Rch (Lnk g F) u (g m).a) → (g m).a < V ∧ (g m).b < V := fun m hm => ⟨(hF m hm.1).2.1, (hF m hm.1).2.2⟩
  have aG : Acyc g (fun s => F s ∧ Rch (Lnk g F) u (g s).a) := fun m hm k => ha m hm.1 (k.mono (Lnk.mono fun s h => ⟨h.1.1, h.2⟩))
  have e1 := parts_forest (S := S) hG aG S
  have same : ∀ x y, Rch (Lnk g fun s => (F s ∧ Rch (Lnk g F) u (g s).a) ∧ s < S) x y ↔ x = y ∨ (Rch (Lnk g F) u x ∧ Rch (Lnk g F) u y) := fun x y => by
    constructor
    · intro k
      induction k with
      | refl => exact .inl rfl
      | @step y z _ e ih =>
        obtain ⟨s, ⟨⟨h1, h2⟩, _⟩, e⟩ := e
        have hb : Rch (Lnk g F) u (g s).b := .step h2 ⟨s, h1, .inl ⟨rfl, rfl⟩⟩
        have hyz : Rch (Lnk g F) u y ∧ Rch (Lnk g F) u z := by
          rcases e with ⟨e1, e2⟩ | ⟨e1, e2⟩
          · subst e1 e2; exact ⟨h2, hb⟩
          · subst e1 e2; exact ⟨hb, h2⟩
        rcases ih with i | i
        · rw [i]; exact .inr hyz
        · exact .inr ⟨i.1, hyz.2⟩
    · rintro (e | ⟨h1, h2⟩)
      · rw [e]; exact .refl
      · have up : ∀ z, Rch (Lnk g F) u z → Rch (Lnk g fun s => (F s ∧ Rch (Lnk g F) u (g s).a) ∧ s < S) u z := fun z k => by
          induction k with
          | refl => exact .refl
          | @step y z k e ih =>
            obtain ⟨s, h1, e⟩ := e
            refine .step ih ⟨s, ⟨⟨h1, ?_⟩, (hF s h1).1⟩, e⟩
            rcases e with ⟨e1, e2⟩ | ⟨e1, e2⟩
            · rw [e1]; exact k
            · rw [e1]; exact .step k ⟨s, h1, .inr ⟨e1, e2⟩⟩
        exact ((up x h1).symm Lnk.sym).trans (up y h2)
  have hr : ∀ x, Rch (Lnk g F) u x → Rch (Lnk g F) x x := fun x _ => .refl
  obtain ⟨l, l1, l2, l3⟩ := lst_ex (R := Rch (Lnk g F)) (fun _ => .refl) (fun _ _ _ h k => h.trans k) (u + 1) u (by omega)
  have ul : Rch (Lnk g F) u l := l2.symm Lnk.sym
  have e2 : parts V (Rch (Lnk g fun s => (F s ∧ Rch (Lnk g F) u (g s).a) ∧ s < S)) = cntP (fun v => True ∧ ¬ (Rch (Lnk g F) u v ∧ ¬ v = l)) V := cntP_congr V fun v hv => by
    constructor
    · intro k
      refine ⟨trivial, fun ⟨h1, h2⟩ => ?_⟩
      have hlv : l < v := by
        rcases Nat.lt_trichotomy l v with c | c | c
        · exact c
        · exact absurd c.symm h2
        · exact absurd (h1.symm Lnk.sym |>.trans ul) (l3 v c)
      exact k l hlv ((same l v).2 (.inr ⟨ul, h1⟩))
    · rintro ⟨_, k⟩ w hw r
      rcases (same w v).1 r with e | ⟨h1, h2⟩
      · omega
      · by_cases c : v = l
        · subst c
          exact l3 w hw (h1.symm Lnk.sym |>.trans ul)
        · exact k ⟨h2, c⟩
  have e3 := cntP_sub (P := fun v => Rch (Lnk g F) u v ∧ ¬ v = l) (Q := fun _ => True) V fun _ _ _ => trivial
  have e4 := cntP_sub (P := fun v => v = l) (Q := fun v => Rch (Lnk g F) u v) V fun x _ e => by rw [e]; exact ul
  have e5 : cntP (fun v => v = l) V = 1 := cntP_one V (by omega) fun x _ => Iff.rfl
  have e6 : ∀ n, cntP (fun _ : Nat => True) n = n := fun n => by
    induction n with
    | zero => rfl
    | succ n ih => unfold cntP; rw [ih, if_pos trivial]
  have e7 := e6 V
  omega
theorem cntP_yes {P : Nat → Prop} {n : Nat} (h : P n) : cntP P (n + 1) = cntP P n + 1 := by
  show cntP P n + _ = _
  rw [if_pos h]
theorem cntP_no {P : Nat → Prop} {n : Nat} (h : ¬ P n) : cntP P (n + 1) = cntP P n := by
  show cntP P n + _ = _
  rw [if_neg h]; rfl
theorem cntP_shift {P Q : Nat → Prop} {a : Nat} (h : ∀ x, Q (a + x) ↔ P x) : ∀ n, cntP Q (a + n) = cntP Q a + cntP P n
  | 0 => rfl
  | n + 1 => by
    have ih := cntP_shift h n
    have e : a + (n + 1) = (a + n) + 1 := rfl
    rw [e]
    by_cases c : P n
    · rw [cntP_yes c, cntP_yes ((h n).2 c)]; omega
    · rw [cntP_no c, cntP_no fun k => c ((h n).1 k)]; omega
theorem FG.count {S V : Nat} {g : Nat → GE} {F : Nat → Prop} {N : NS} (h : FG S V g F N) {u : Nat} (hu : u < V) :
    cntP (fun x => VV (S + V) x ∧ Rch (EF S g F) (S + u + 1) x) (S + V + 1) + 1 = 2 * cntP (fun v => Rch (Lnk g F) u v) V := by
  have hfs := fun s hs => (h.fs s hs)
  have e1 := part_edges (S := S) (fun s hs => ⟨(hfs s hs).1, (hfs s hs).2.1, (hfs s hs).2.2.1⟩) h.acyc hu
  have ev : ∀ v, Rch (EF S g F) (S + u + 1) (S + v + 1) ↔ Rch (Lnk g F) u v := fun v => ef_rch fun s hs => (hfs s hs).1
  have es : ∀ s, s < S → (Rch (EF S g F) (S + u + 1) (s + 1) ↔ F s ∧ Rch (Lnk g F) u (g s).a) := fun s hs => by
    constructor
    · intro k
      have hF : F s := by
        cases k with
        | refl => omega
        | step _ e =>
          obtain ⟨t, ht, e⟩ := e
          rcases e with ⟨e1, e2 | e2⟩ | ⟨e1, e2⟩
          · omega
          · omega
          · rw [show s = t by omega]; exact ht
      exact ⟨hF, (ev _).1 (.step k ⟨s, hF, .inl ⟨rfl, .inl rfl⟩⟩)⟩
    · rintro ⟨h1, h2⟩
      exact .step ((ev _).2 h2) ⟨s, h1, .inr ⟨rfl, .inl rfl⟩⟩
  have c1 : cntP (fun x => VV (S + V) x ∧ Rch (EF S g F) (S + u + 1) x) (S + V + 1) = cntP (fun x => VV (S + V) (x + 1) ∧ Rch (EF S g F) (S + u + 1) (x + 1)) (S + V) := by
    have := cntP_shift (P := fun x => VV (S + V) (x + 1) ∧ Rch (EF S g F) (S + u + 1) (x + 1)) (Q := fun x => VV (S + V) x ∧ Rch (EF S g F) (S + u + 1) x) (a := 1) (fun x => by rw [Nat.add_comm 1 x]) (S + V)
    rw [Nat.add_comm 1] at this
    rw [this]
    have : cntP (fun x => VV (S + V) x ∧ Rch (EF S g F) (S + u + 1) x) 1 = 0 := cntP_none 1 fun x hx k => by have := k.1.1; omega
    omega
  have c2 : cntP (fun x => VV (S + V) (x + 1) ∧ Rch (EF S g F) (S + u + 1) (x + 1)) (S + V) = cntP (fun x => VV (S + V) (x + 1) ∧ Rch (EF S g F) (S + u + 1) (x + 1)) S + cntP (fun v => VV (S + V) (S + v + 1) ∧ Rch (Lnk g F) u v) V :=
    cntP_shift (P := fun v => VV (S + V) (S + v + 1) ∧ Rch (Lnk g F) u v) (fun x => by rw [ev]) V
  have c3 : cntP (fun x => VV (S + V) (x + 1) ∧ Rch (EF S g F) (S + u + 1) (x + 1)) S = cntP (fun s => F s ∧ Rch (Lnk g F) u (g s).a) S := cntP_congr S fun s hs => by
    rw [es s hs]
    exact ⟨And.right, fun k => ⟨⟨by omega, by omega⟩, k⟩⟩
  have c4 : cntP (fun v => VV (S + V) (S + v + 1) ∧ Rch (Lnk g F) u v) V = cntP (fun v => Rch (Lnk g F) u v) V := cntP_congr V fun v hv => ⟨And.right, fun k => ⟨⟨by omega, by omega⟩, k⟩⟩
  rw [c1, c2, c3, c4]; omega
end Go.Proofs.YtlooaipipmiijaaGreat

namespace Go.Proofs.YtlooaipipmiijaaGreat
set_option linter.unusedVariables false
set_option linter.unusedSimpArgs false
open Go.RowKit
structure SlR where
  st : Int
  af : Int
  tm : Int
def updR (R : Nat → SlR) (i : Nat) (r : SlR) : Nat → SlR := fun x => if x = i then r else R x
theorem uR_same (R : Nat → SlR) (i : Nat) (r : SlR) : updR R i r i = r := if_pos rfl
theorem uR_ne (R : Nat → SlR) {i x : Nat} (r : SlR) (h : x ≠ i) : updR R i r x = R x := if_neg h
def slc (r : SlR) : Nat → Value
  | 0 => .int .i64 r.st
  | 1 => .int .i64 r.af
  | _ => .int .u64 r.tm
def pgCells (R : Nat → SlR) (j : Nat) : List Value := (List.range 192).map fun q => slc (R (64 * j + q / 3)) (q % 3)
theorem pg_len (R : Nat → SlR) (j : Nat) : (pgCells R j).length = 192 := by unfold pgCells; rw [List.length_map, List.length_range]
theorem pg_get {R : Nat → SlR} {i c : Nat} (hc : c < 3) : (pgCells R (i / 64))[i % 64 * 3 + c]? = some (slc (R i) c) := by
  unfold pgCells
  rw [List.getElem?_map, List.getElem?_range (by omega)]
  show some (slc (R (64 * (i / 64) + (i % 64 * 3 + c) / 3)) ((i % 64 * 3 + c) % 3)) = _
  rw [show 64 * (i / 64) + (i % 64 * 3 + c) / 3 = i by omega, show (i % 64 * 3 + c) % 3 = c by omega]
theorem pg_set {R : Nat → SlR} {i c : Nat} {r : SlR} (hc : c < 3) (h : ∀ d, d < 3 → d ≠ c → slc r d = slc (R i) d) : (pgCells R (i / 64)).set (i % 64 * 3 + c) (slc r c) = pgCells (updR R i r) (i / 64) := by
  unfold pgCells
  apply List.ext_getElem (by simp)
  intro q h1 h2
  have hq : q < 192 := by simpa using h2
  rw [List.getElem_set]
  simp only [List.getElem_map, List.getElem_range]
  by_cases e : i % 64 * 3 + c = q
  · rw [if_pos e, show 64 * (i / 64) + q / 3 = i by omega, show q % 3 = c by omega, uR_same]
  · rw [if_neg e]
    by_cases e2 : 64 * (i / 64) + q / 3 = i
    · rw [e2, uR_same, h (q % 3) (by omega) (by omega)]
    · rw [uR_ne _ _ e2]
theorem pg_other {R : Nat → SlR} {i j : Nat} {r : SlR} (h : j ≠ i / 64) : pgCells (updR R i r) j = pgCells R j := by
  unfold pgCells
  refine List.map_congr_left fun q hq => ?_
  rw [List.mem_range] at hq
  rw [uR_ne _ _ (by omega)]
theorem pg_congr {R R' : Nat → SlR} {j : Nat} (h : ∀ x, 64 * j ≤ x → x < 64 * j + 64 → R' x = R x) : pgCells R' j = pgCells R j := by
  unfold pgCells
  refine List.map_congr_left fun q hq => ?_
  rw [List.mem_range] at hq
  rw [h _ (by omega) (by omega)]
def pRow (np : Nat) (pl : Nat → Nat) : List Value := (List.range np).map fun j => .pointer (some ⟨pl j, 0, none⟩)
theorem pRow_get {np : Nat} {pl : Nat → Nat} {j : Nat} (h : j < np) : (pRow np pl)[j]? = some (.pointer (some ⟨pl j, 0, none⟩)) := by
  unfold pRow; rw [List.getElem?_map, List.getElem?_range h]; rfl
theorem pRow_snoc (np : Nat) (pl : Nat → Nat) (q : Nat) : pRow np pl ++ [.pointer (some ⟨q, 0, none⟩)] = pRow (np + 1) (fun j => if j = np then q else pl j) := by
  unfold pRow
  rw [List.range_succ, List.map_append]
  congr 1
  · refine List.map_congr_left fun j hj => ?_
    rw [List.mem_range] at hj
    show _ = Value.pointer (some ⟨if j = np then q else pl j, 0, none⟩)
    rw [if_neg (by omega)]
  · show _ = [Value.pointer (some ⟨if np = np then q else pl np, 0, none⟩)]
    rw [if_pos rfl]
def Chn (R : Nat → SlR) : Int → List Nat → Prop
  | h, [] => h = -1
  | h, x :: l => h = (x : Int) ∧ Chn R (R x).af l
theorem Chn.upd {R : Nat → SlR} {i : Nat} {r : SlR} : ∀ {h : Int} {l : List Nat}, i ∉ l → Chn R h l → Chn (updR R i r) h l
  | h, [], _, hc => hc
  | h, x :: l, hn, hc => ⟨hc.1, by
    rw [uR_ne _ _ (fun e => hn (by rw [e]; exact .head _))]
    exact Chn.upd (fun hm => hn (.tail _ hm)) hc.2⟩
structure ArP (S beg : Nat) (used : Nat) (last : Int) (R : Nat → SlR) (Lv : Nat → Prop) : Prop where
  lv : ∀ x, Lv x ↔ x < beg ∧ (R x).st = 1
  st : ∀ x, x < beg → (R x).st = 1 ∨ (R x).st = 2
  ch : ∃ l : List Nat, l.Nodup ∧ (∀ x, x ∈ l ↔ x < beg ∧ (R x).st = 2) ∧ Chn R last l
  us : used = cntP Lv S
  bg : beg ≤ S
  ss : S ≤ 65536
theorem ArP.head {S beg used : Nat} {last : Int} {R : Nat → SlR} {Lv : Nat → Prop} (h : ArP S beg used last R Lv) (hl : last ≠ -1) : ∃ x : Nat, last = (x : Int) ∧ x < beg ∧ (R x).st = 2 ∧ ∃ l, (x :: l).Nodup ∧ (∀ y, y ∈ x :: l ↔ y < beg ∧ (R y).st = 2) ∧ Chn R (R x).af l := by
  obtain ⟨l, h1, h2, h3⟩ := h.ch
  cases l with
  | nil => exact absurd h3 hl
  | cons x l => exact ⟨x, h3.1, ((h2 x).1 (.head _)).1, ((h2 x).1 (.head _)).2, l, h1, h2, h3.2⟩
theorem ArP.none {S beg used : Nat} {last : Int} {R : Nat → SlR} {Lv : Nat → Prop} (h : ArP S beg used last R Lv) (hl : last = -1) : ∀ x, Lv x ↔ x < beg := by
  obtain ⟨l, h1, h2, h3⟩ := h.ch
  have e : l = [] := by
    cases l with
    | nil => rfl
    | cons x l => have := h3.1; omega
  subst e
  intro x
  refine ⟨fun hx => ((h.lv x).1 hx).1, fun hx => (h.lv x).2 ⟨hx, ?_⟩⟩
  rcases h.st x hx with c | c
  · exact c
  · exact absurd ((h2 x).2 ⟨hx, c⟩) List.not_mem_nil
theorem cnt_add {P : Nat → Prop} {i : Nat} (hi : ¬ P i) : ∀ n, i < n → cntP (fun x => P x ∨ x = i) n = cntP P n + 1 := by
  intro n hn
  have h1 := cntP_sub (P := P) (Q := fun x => P x ∨ x = i) n (fun x _ h => .inl h)
  have h2 : cntP (fun x => (P x ∨ x = i) ∧ ¬ P x) n = 1 := cntP_one n hn (fun x _ => ⟨fun h => h.1.resolve_left h.2, fun h => ⟨.inr h, by rw [h]; exact hi⟩⟩)
  omega
theorem cnt_del {P : Nat → Prop} {i : Nat} (hi : P i) : ∀ n, i < n → cntP (fun x => P x ∧ x ≠ i) n + 1 = cntP P n := by
  intro n hn
  have h1 := cntP_sub (P := fun x => P x ∧ x ≠ i) (Q := P) n (fun x _ h => h.1)
  have h2 : cntP (fun x => P x ∧ ¬ (P x ∧ x ≠ i)) n = 1 := cntP_one n hn (fun x _ => ⟨fun h => Classical.byContradiction fun hc => h.2 ⟨h.1, hc⟩, fun h => ⟨by rw [h]; exact hi, fun hc => hc.2 h⟩⟩)
  omega
theorem cnt_all {P : Nat → Prop} : ∀ n, (∀ x, x < n → P x) → cntP P n = n
  | 0, _ => rfl
  | n + 1, h => by rw [cntP_yes (h n (by omega)), cnt_all n (fun x hx => h x (by omega))]
theorem cnt_hole {P : Nat → Prop} {n z : Nat} (hz : z < n) (h : ¬ P z) : cntP P n < n := by
  have h1 := cntP_lt (P := P) (Q := fun _ => True) hz (fun _ _ _ => trivial) trivial h
  have h2 := cntP_le (P := fun _ => True) n
  omega
theorem ArP.init (S : Nat) (hS : S ≤ 65536) (R : Nat → SlR) : ArP S 0 0 (-1) R (fun _ => False) :=
  ⟨fun x => ⟨fun h => h.elim, fun h => by omega⟩, fun x h => by omega, ⟨[], List.nodup_nil, fun x => ⟨fun h => absurd h List.not_mem_nil, fun h => by omega⟩, rfl⟩, (cntP_none _ (fun _ _ h => h)).symm, Nat.zero_le _, hS⟩
theorem ArP.again {S beg used : Nat} {last : Int} {R : Nat → SlR} {Lv : Nat → Prop} (h : ArP S beg used last R Lv) {x : Nat} (hl : last = (x : Int)) (t : Int) :
    ArP S beg (used + 1) (R x).af (updR R x ⟨1, -1, t⟩) (fun y => Lv y ∨ y = x) ∧ ¬ Lv x ∧ x < beg := by
  obtain ⟨x', e, hb, h2, l, hn, hm, hc⟩ := h.head (by omega)
  obtain rfl : x = x' := by omega
  have hx : ¬ Lv x := fun c => by have := ((h.lv x).1 c).2; omega
  have hnl : x ∉ l := (List.nodup_cons.1 hn).1
  refine ⟨⟨fun y => ?_, fun y hy => ?_, ⟨l, (List.nodup_cons.1 hn).2, fun y => ?_, Chn.upd hnl hc⟩, ?_, h.bg, h.ss⟩, hx, hb⟩
  · by_cases c : y = x
    · subst c; rw [uR_same]; exact ⟨fun _ => ⟨hb, rfl⟩, fun _ => .inr rfl⟩
    · rw [uR_ne _ _ c]; exact ⟨fun q => (h.lv y).1 (q.resolve_right c), fun q => .inl ((h.lv y).2 q)⟩
  · by_cases c : y = x
    · subst c; rw [uR_same]; exact .inl rfl
    · rw [uR_ne _ _ c]; exact h.st y hy
  · by_cases c : y = x
    · subst c; rw [uR_same]
      exact ⟨fun q => absurd q hnl, fun q => by have := q.2; simp at this⟩
    · rw [uR_ne _ _ c, ← hm y]
      exact ⟨fun q => .tail _ q, fun q => by
        rcases List.mem_cons.1 q with q | q
        · exact absurd q c
        · exact q⟩
  · rw [cnt_add hx S (by have := h.bg; omega), h.us]
theorem ArP.more {S beg used : Nat} {last : Int} {R : Nat → SlR} {Lv : Nat → Prop} (h : ArP S beg used last R Lv) (hl : last = -1) (hb : beg < S) (t : Int) :
    ArP S (beg + 1) (used + 1) (-1) (updR R beg ⟨1, -1, t⟩) (fun y => Lv y ∨ y = beg) ∧ ¬ Lv beg := by
  have hn := h.none hl
  have hx : ¬ Lv beg := fun c => by have := (hn beg).1 c; omega
  have h1 : ∀ y, y < beg → (R y).st = 1 := fun y hy => ((h.lv y).1 ((hn y).2 hy)).2
  refine ⟨⟨fun y => ?_, fun y hy => ?_, ⟨[], List.nodup_nil, fun y => ?_, rfl⟩, ?_, hb, h.ss⟩, hx⟩
  · by_cases c : y = beg
    · subst c; rw [uR_same]; exact ⟨fun _ => ⟨by omega, rfl⟩, fun _ => .inr rfl⟩
    · rw [uR_ne _ _ c]
      exact ⟨fun q => by have := (h.lv y).1 (q.resolve_right c); exact ⟨by omega, this.2⟩, fun q => .inl ((h.lv y).2 ⟨by omega, q.2⟩)⟩
  · by_cases c : y = beg
    · subst c; rw [uR_same]; exact .inl rfl
    · rw [uR_ne _ _ c]; exact h.st y (by omega)
  · refine ⟨fun q => absurd q List.not_mem_nil, fun q => ?_⟩
    by_cases c : y = beg
    · subst c; rw [uR_same] at q; have := q.2; simp at this
    · rw [uR_ne _ _ c, h1 y (by omega)] at q; have := q.2; omega
  · rw [cnt_add hx S hb, h.us]
theorem ArP.back {S beg used : Nat} {last : Int} {R : Nat → SlR} {Lv : Nat → Prop} (h : ArP S beg used last R Lv) {x : Nat} (hx : Lv x) :
    ArP S beg (used - 1) (x : Int) (updR R x ⟨2, last, (R x).tm⟩) (fun y => Lv y ∧ y ≠ x) ∧ 1 ≤ used := by
  obtain ⟨hb, h1⟩ := (h.lv x).1 hx
  obtain ⟨l, hn, hm, hc⟩ := h.ch
  have hnl : x ∉ l := fun q => by have := ((hm x).1 q).2; omega
  have hcnt := cnt_del hx S (by have := h.bg; omega)
  have hus := h.us
  refine ⟨⟨fun y => ?_, fun y hy => ?_, ⟨x :: l, List.nodup_cons.2 ⟨hnl, hn⟩, fun y => ?_, rfl, ?_⟩, by omega, h.bg, h.ss⟩, by omega⟩
  · by_cases c : y = x
    · subst c; rw [uR_same]; exact ⟨fun q => absurd rfl q.2, fun q => by have := q.2; simp at this⟩
    · rw [uR_ne _ _ c]; exact ⟨fun q => (h.lv y).1 q.1, fun q => ⟨(h.lv y).2 q, c⟩⟩
  · by_cases c : y = x
    · subst c; rw [uR_same]; exact .inr rfl
    · rw [uR_ne _ _ c]; exact h.st y hy
  · by_cases c : y = x
    · subst c; rw [uR_same]; exact ⟨fun _ => ⟨hb, rfl⟩, fun _ => .head _⟩
    · rw [uR_ne _ _ c, ← hm y]
      exact ⟨fun q => by
        rcases List.mem_cons.1 q with q | q
        · exact absurd q c
        · exact q, fun q => .tail _ q⟩
  · rw [uR_same]; exact Chn.upd hnl hc
theorem ArP.full {S beg used : Nat} {last : Int} {R : Nat → SlR} {Lv : Nat → Prop} (h : ArP S beg used last R Lv) : (last = -1 ∧ ¬ beg < S) ↔ used = S := by
  constructor
  · rintro ⟨h1, h2⟩
    rw [h.us]
    have := h.bg
    exact cnt_all S (fun x hx => (h.none h1 x).2 (by omega))
  · intro hu
    rw [h.us] at hu
    refine ⟨Classical.byContradiction fun hl => ?_, fun hb => ?_⟩
    · obtain ⟨x, _, hb, h2, _⟩ := h.head hl
      have := h.bg
      have := cnt_hole (P := Lv) (z := x) (n := S) (by omega) (fun c => by have := ((h.lv x).1 c).2; omega)
      omega
    · have := cnt_hole (P := Lv) (z := beg) (n := S) hb (fun c => by have := ((h.lv beg).1 c).1; omega)
      omega
structure AG where
  bv : Value
  np : Nat
  pl : Nat → Nat
def AG.foot (G : AG) (b k : Nat) : Prop := k = b ∨ G.bv.ownBlock = some k ∨ ∃ j, j < G.np ∧ G.pl j = k
structure ArR (w : World) (b : Nat) (G : AG) (S beg used : Nat) (last : Int) (R : Nat → SlR) : Prop where
  box : Blk w b 161 [.pointer (some ⟨b, 0, none⟩), G.bv, .int .i64 (S : Int), .int .i64 (beg : Int), .int .i64 (used : Int), .int .i64 last]
  row : w.ownsRow 0 175 1 G.bv G.np (pRow G.np G.pl)
  pg : ∀ j, j < G.np → Blk w (G.pl j) 177 (pgCells R j)
  d1 : G.bv.ownBlock ≠ some b
  d2 : ∀ j, j < G.np → G.pl j ≠ b ∧ G.bv.ownBlock ≠ some (G.pl j)
  d3 : ∀ i j, i < G.np → j < G.np → G.pl i = G.pl j → i = j
  np : G.np = (beg + 63) / 64
theorem ArR.foot_lt {w : World} {b : Nat} {G : AG} {S beg used : Nat} {last : Int} {R : Nat → SlR} (h : ArR w b G S beg used last R) : ∀ k, G.foot b k → k < w.heap.size := by
  rintro k (rfl | e | ⟨j, hj, rfl⟩)
  · exact h.box.lt
  · exact (h.row.lt k e).2
  · exact (h.pg j hj).lt
theorem ArR.mod {F : Nat → Prop} {w w' : World} {b : Nat} {G : AG} {S beg used : Nat} {last : Int} {R : Nat → SlR} (h : ArR w b G S beg used last R) (m : Mod F w w') (hF : ∀ k, G.foot b k → ¬ F k) : ArR w' b G S beg used last R :=
  ⟨h.box.mod m (hF _ (.inl rfl)), owns_modL h.row m (fun x e => hF x (.inr (.inl e))), fun j hj => (h.pg j hj).mod m (hF _ (.inr (.inr ⟨j, hj, rfl⟩))), h.d1, h.d2, h.d3, h.np⟩
theorem ArR.below {w w' : World} {b : Nat} {G : AG} {S beg used : Nat} {last : Int} {R : Nat → SlR} (h : ArR w b G S beg used last R) (m : Below w.heap.size w w') : ArR w' b G S beg used last R :=
  ⟨h.box.below m h.box.lt, owns_same h.row (fun k e => m.block k (h.row.lt k e).2), fun j hj => (h.pg j hj).below m (h.pg j hj).lt, h.d1, h.d2, h.d3, h.np⟩
theorem ArR.field {w : World} {b : Nat} {G : AG} {S beg used used' : Nat} {last last' : Int} {R : Nat → SlR} (h : ArR w b G S beg used last R) (q : Nat) (u : Value)
    (e : ([.pointer (some ⟨b, 0, none⟩), G.bv, .int .i64 (S : Int), .int .i64 (beg : Int), .int .i64 (used : Int), .int .i64 last] : List Value).set q u = [.pointer (some ⟨b, 0, none⟩), G.bv, .int .i64 (S : Int), .int .i64 (beg : Int), .int .i64 (used' : Int), .int .i64 last']) :
    ArR (w.setCell ⟨b, q, none⟩ u) b G S beg used' last' R := by
  have m := (Mod.refl (fun x => x = b) w).setCell ⟨b, q, none⟩ (fun _ => rfl) u
  refine ⟨by rw [← e]; exact h.box.set q u, owns_modL h.row m (fun x e => fun hx => h.d1 (by rw [← hx]; exact e)), fun j hj => (h.pg j hj).mod m (h.d2 j hj).1, h.d1, h.d2, h.d3, h.np⟩
theorem ArR.slot {w : World} {b : Nat} {G : AG} {S beg used : Nat} {last : Int} {R : Nat → SlR} (h : ArR w b G S beg used last R) {i c : Nat} (hi : i / 64 < G.np) (hc : c < 3) {r : SlR} (hr : ∀ d, d < 3 → d ≠ c → slc r d = slc (R i) d) {u : Value} (hu : u = slc r c) :
    ArR (w.setCell ⟨G.pl (i / 64), i % 64 * 3 + c, none⟩ u) b G S beg used last (updR R i r) := by
  subst hu
  have m := (Mod.refl (fun x => x = G.pl (i / 64)) w).setCell ⟨G.pl (i / 64), i % 64 * 3 + c, none⟩ (fun _ => rfl) (slc r c)
  refine ⟨h.box.mod m (fun e => (h.d2 _ hi).1 e.symm), owns_modL h.row m (fun x e => fun hx => (h.d2 _ hi).2 (by rw [← hx]; exact e)), fun j hj => ?_, h.d1, h.d2, h.d3, h.np⟩
  by_cases e : j = i / 64
  · subst e
    rw [← pg_set hc hr]
    exact (h.pg _ hj).set _ _
  · rw [pg_other e]
    exact (h.pg j hj).mod m (fun q => e (h.d3 _ _ hj hi q))
theorem ArR.cell {w : World} {b : Nat} {G : AG} {S beg used : Nat} {last : Int} {R : Nat → SlR} (h : ArR w b G S beg used last R) {i c : Nat} (hi : i / 64 < G.np) (hc : c < 3) :
    w.cell? ⟨G.pl (i / 64), i % 64 * 3 + c, none⟩ = some (slc (R i) c) ∧ w.frozen? ⟨G.pl (i / 64), i % 64 * 3 + c, none⟩ = false := ⟨(h.pg _ hi).cell (pg_get hc), (h.pg _ hi).free _⟩
end Go.Proofs.YtlooaipipmiijaaGreat

namespace Go.Proofs.YtlooaipipmiijaaGreat
set_option linter.unusedVariables false
set_option linter.unusedSimpArgs false
open Go.RowKit
theorem Tryz.eqlArena (a : Addr) (w : World) : (binOp .eql 119 (.pointer (some a)) (.pointer (some a))).run Tryz.prog w = .ok (.bool true) w := by
  have hj : ∃ j, Tryz.prog.info? 161 = some j := Option.isSome_iff_exists.1 (by kernel_rfl)
  obtain ⟨j, hj⟩ := hj
  exact run_eql_ptr_same w a Tryz.underlying119 hj
set_option maxHeartbeats 400000 in
theorem ar_valid (b : Nat) (w : World) (h0 : w.cell? ⟨b, 0, none⟩ = some (.pointer (some ⟨b, 0, none⟩))) :
    Calls Tryz.prog 99 #[.pointer (some ⟨b, 0, none⟩)] w (Ret (.bool true) w) := by
  have he := Tryz.eqlArena ⟨b, 0, none⟩ w
  go_enter Tryz.func99, Tryz.ntmps99
  go_wp2
  go_ret
  exact ⟨rfl, rfl⟩
section
variable {w : World} {b : Nat} {G : AG} {S beg used : Nat} {last : Int} {R : Nat → SlR}
theorem ArR.c0 (h : ArR w b G S beg used last R) : w.cell? ⟨b, 0, none⟩ = some (.pointer (some ⟨b, 0, none⟩)) := h.box.cell (i := 0) rfl
theorem ArR.c2 (h : ArR w b G S beg used last R) : w.cell? ⟨b, 2, none⟩ = some (.int .i64 (S : Int)) := h.box.cell (i := 2) rfl
theorem ArR.c3 (h : ArR w b G S beg used last R) : w.cell? ⟨b, 3, none⟩ = some (.int .i64 (beg : Int)) := h.box.cell (i := 3) rfl
theorem ArR.c4 (h : ArR w b G S beg used last R) : w.cell? ⟨b, 4, none⟩ = some (.int .i64 (used : Int)) := h.box.cell (i := 4) rfl
theorem ArR.c5 (h : ArR w b G S beg used last R) : w.cell? ⟨b, 5, none⟩ = some (.int .i64 last) := h.box.cell (i := 5) rfl
theorem ArR.blk (h : ArR w b G S beg used last R) {i : Nat} (hi : i / 64 < G.np) : ∃ g cap, w.cell? ⟨b, 1, none⟩ = some (.slice (some ⟨g, 0, none⟩) G.np cap) ∧ w.cell? ⟨g, i / 64, none⟩ = some (.pointer (some ⟨G.pl (i / 64), 0, none⟩)) := by
  obtain ⟨g, cap, hv, _, _, _, hc, _⟩ := owns_form h.row (by omega)
  have h1 := h.box.cell (i := 1) rfl
  rw [hv] at h1
  exact ⟨g, cap, h1, (hc (i / 64) (by omega)).trans (pRow_get hi)⟩
end
set_option maxHeartbeats 1000000 in
theorem ar_at (w : World) (b : Nat) (G : AG) (S beg used : Nat) (last : Int) (R : Nat → SlR) (h : ArR w b G S beg used last R) (i : Nat) (hi : i / 64 < G.np) (hb : G.np ≤ 1024) :
    Calls Tryz.prog 101 #[.pointer (some ⟨b, 0, none⟩), .int .i64 i] w (Ret (.pointer (some ⟨G.pl (i / 64), i % 64 * 3, none⟩)) w) := by
  obtain ⟨g, cap, c1, c2⟩ := h.blk hi
  generalize G.pl (i / 64) = q at *
  generalize G.np = np at *
  clear h
  go_enter Tryz.func101, Tryz.ntmps101
  go_wp2
  go_ret
  exact ⟨rfl, rfl⟩
set_option maxHeartbeats 1000000 in
theorem ar_state (w : World) (b : Nat) (G : AG) (S beg used : Nat) (last : Int) (R : Nat → SlR) (h : ArR w b G S beg used last R) (hb : beg ≤ 65536) (i : Nat) :
    Calls Tryz.prog 100 #[.pointer (some ⟨b, 0, none⟩), .int .i64 i] w (Ret (.int .i64 (if i < beg then (R i).st else 0)) w) := by
  have c3 := h.c3
  have hnp := h.np
  by_cases hi : i < beg
  · rw [if_pos hi]
    have HA := Lib.hid (ar_at w b G S beg used last R h i (by omega) (by omega))
    obtain ⟨p0, _⟩ := h.cell (i := i) (c := 0) (by omega) (by decide)
    have p0' : w.cell? ⟨G.pl (i / 64), i % 64 * 3, none⟩ = some (.int .i64 (R i).st) := p0
    clear p0
    have t1 : decide ((beg : Int) ≤ (i : Int)) = false := decide_eq_false (by omega)
    have t2 : decide (beg ≤ i) = false := decide_eq_false (by omega)
    generalize G.pl (i / 64) = q at *
    generalize (R i).st = st at *
    clear h hi hnp
    go_enter Tryz.func100, Tryz.ntmps100
    go_wp2_with (go_at_call 101; refine HA.out.mono ?_; rintro e w' ⟨rfl, rfl⟩)
    go_ret
    exact ⟨rfl, rfl⟩
  · rw [if_neg hi]
    have t1 : decide ((beg : Int) ≤ (i : Int)) = true := decide_eq_true (by omega)
    have t2 : decide (beg ≤ i) = true := decide_eq_true (by omega)
    clear h hi hnp
    go_enter Tryz.func100, Tryz.ntmps100
    go_wp2_with fail
    go_ret
    exact ⟨rfl, rfl⟩
def ArO (w : World) (b : Nat) (S beg : Nat) (Lv : Nat → Prop) (F : Nat → Prop) : Prop := ∃ G used last R, ArR w b G S beg used last R ∧ ArP S beg used last R Lv ∧ ∀ k, G.foot b k → F k
theorem ArO.mod {D : Nat → Prop} {w w' : World} {b S beg : Nat} {Lv F : Nat → Prop} (h : ArO w b S beg Lv F) (m : Mod D w w') (hF : ∀ k, F k → ¬ D k) : ArO w' b S beg Lv F := by
  obtain ⟨G, used, last, R, h1, h2, h3⟩ := h
  exact ⟨G, used, last, R, h1.mod m (fun k hk => hF k (h3 k hk)), h2, h3⟩
theorem ArO.below {w w' : World} {b S beg : Nat} {Lv F : Nat → Prop} (h : ArO w b S beg Lv F) (m : Below w.heap.size w w') : ArO w' b S beg Lv F := by
  obtain ⟨G, used, last, R, h1, h2, h3⟩ := h
  exact ⟨G, used, last, R, h1.below m, h2, h3⟩
theorem ArO.wide {w : World} {b S beg : Nat} {Lv F F' : Nat → Prop} (h : ArO w b S beg Lv F) (hF : ∀ k, F k → F' k) : ArO w b S beg Lv F' := by
  obtain ⟨G, used, last, R, h1, h2, h3⟩ := h
  exact ⟨G, used, last, R, h1, h2, fun k hk => hF k (h3 k hk)⟩
theorem ArO.tight {w : World} {b S beg : Nat} {Lv F : Nat → Prop} (h : ArO w b S beg Lv F) : ArO w b S beg Lv (fun k => F k ∧ k < w.heap.size) := by
  obtain ⟨G, used, last, R, h1, h2, h3⟩ := h
  exact ⟨G, used, last, R, h1, h2, fun k hk => ⟨h3 k hk, h1.foot_lt k hk⟩⟩
theorem ArO.lvb {w : World} {b S beg : Nat} {Lv F : Nat → Prop} (h : ArO w b S beg Lv F) {x : Nat} (hx : Lv x) : x < beg ∧ beg ≤ S ∧ S ≤ 65536 := by
  obtain ⟨G, used, last, R, h1, h2, h3⟩ := h
  exact ⟨((h2.lv x).1 hx).1, h2.bg, h2.ss⟩
theorem ArO.sz {w : World} {b S beg : Nat} {Lv F : Nat → Prop} (h : ArO w b S beg Lv F) : beg ≤ S ∧ S ≤ 65536 := by
  obtain ⟨G, used, last, R, h1, h2, h3⟩ := h
  exact ⟨h2.bg, h2.ss⟩
theorem ArO.self {w : World} {b S beg : Nat} {Lv F : Nat → Prop} (h : ArO w b S beg Lv F) : b < w.heap.size ∧ F b := by
  obtain ⟨G, used, last, R, h1, h2, h3⟩ := h
  exact ⟨h1.box.lt, h3 b (.inl rfl)⟩
theorem ar_len (w : World) (b S beg : Nat) (Lv F : Nat → Prop) (h : ArO w b S beg Lv F) : Calls Tryz.prog 85 #[.pointer (some ⟨b, 0, none⟩)] w (Ret (.int .i64 (cntP Lv S : Int)) w) := by
  obtain ⟨G, used, last, R, h1, h2, _⟩ := h
  rw [← h2.us]
  have HV := Lib.hid (ar_valid b w h1.c0)
  have c4 := h1.c4
  clear h1 h2
  go_enter Tryz.func85, Tryz.ntmps85
  go_wp2_with (go_at_call 99; refine HV.out.mono ?_; rintro e w' ⟨rfl, rfl⟩)
  go_ret
  exact ⟨rfl, rfl⟩
def nxV (S beg : Nat) (last : Int) : Int := if last = -1 then if beg < S then (beg : Int) else 0 else last
def nxB (S beg : Nat) (last : Int) : Bool := if last = -1 then decide (beg < S) else true
set_option maxHeartbeats 1000000 in
theorem ar_next (w : World) (b : Nat) (G : AG) (S beg used : Nat) (last : Int) (R : Nat → SlR) (h : ArR w b G S beg used last R) :
    Calls Tryz.prog 121 #[.pointer (some ⟨b, 0, none⟩)] w (RetB (.tuple #[.int .i64 (nxV S beg last), .bool (nxB S beg last)]) w) := by
  have HV := Lib.hid (ar_valid b w h.c0)
  have c2 := h.c2
  have c3 := h.c3
  have c5 := h.c5
  clear h
  by_cases hl : last = -1
  · subst hl
    by_cases hb : beg < S
    · have e1 : nxV S beg (-1) = (beg : Int) := by unfold nxV; rw [if_pos rfl, if_pos hb]
      have e2 : nxB S beg (-1) = true := by unfold nxB; rw [if_pos rfl, decide_eq_true hb]
      rw [e1, e2]
      have t1 : decide ((beg : Int) < (S : Int)) = true := decide_eq_true (by omega)
      have t2 : decide (beg < S) = true := decide_eq_true hb
      clear e1 e2
      go_enter Tryz.func121, Tryz.ntmps121
      go_wp2_with (go_at_call 99; refine HV.out.mono ?_; rintro e w' ⟨rfl, rfl⟩)
      go_quiet (fail)
      go_wp2_with fail
      go_ret2
      exact ⟨rfl, by first | exact Below.refl _ _ | exact bel_drewN (Below.refl _ _) _⟩
    · have e1 : nxV S beg (-1) = 0 := by unfold nxV; rw [if_pos rfl, if_neg hb]
      have e2 : nxB S beg (-1) = false := by unfold nxB; rw [if_pos rfl, decide_eq_false hb]
      rw [e1, e2]
      have t1 : decide ((beg : Int) < (S : Int)) = false := decide_eq_false (by omega)
      have t2 : decide (beg < S) = false := decide_eq_false hb
      clear e1 e2
      go_enter Tryz.func121, Tryz.ntmps121
      go_wp2_with (go_at_call 99; refine HV.out.mono ?_; rintro e w' ⟨rfl, rfl⟩)
      go_quiet (fail)
      go_wp2_with fail
      go_ret2
      exact ⟨rfl, by first | exact Below.refl _ _ | exact bel_drewN (Below.refl _ _) _⟩
  · have e1 : nxV S beg last = last := by unfold nxV; rw [if_neg hl]
    have e2 : nxB S beg last = true := by unfold nxB; rw [if_neg hl]
    rw [e1, e2]
    have t1 : (last == -1) = false := by rw [beq_eq_false_iff_ne]; exact hl
    have t2 : decide (last = -1) = false := decide_eq_false hl
    clear e1 e2
    go_enter Tryz.func121, Tryz.ntmps121
    go_wp2_with (go_at_call 99; refine HV.out.mono ?_; rintro e w' ⟨rfl, rfl⟩)
    go_ret2
    exact ⟨rfl, by first | exact Below.refl _ _ | exact bel_drewN (Below.refl _ _) _⟩
end Go.Proofs.YtlooaipipmiijaaGreat
