/- Several texts in one: TpP, WnB, WnC, WnD. -/
import Derived.Test.YtlooaipipmiijaaGreatZU08
import Derived.Test.YtlooaipipmiijaaGreatZU09
import Derived.Test.YtlooaipipmiijaaGreatZU34
namespace Go.Proofs.YtlooaipipmiijaaGreat
set_option linter.unusedVariables false
set_option linter.unusedSimpArgs false
structure Rcd where
  u : Nat
  v : Nat
  wt : Int
  t : Int
def addI (l : List Nat) (x : Nat) : List Nat := if x ∈ l then l else l ++ [x]
def addR (l : List Nat) (r : Rcd) : List Nat := addI (addI l r.u) r.v
def idsL (l : List Rcd) : List Nat := l.foldl addR []
def stpR (t : Int) (out : List Nat) (r : Rcd) : List Nat := if r.t < t then out else if r.u ∈ out ∧ r.v ∉ out then out ++ [r.v] else if r.v ∈ out ∧ r.u ∉ out then out ++ [r.u] else out
def pasL (l : List Rcd) (t : Int) (out : List Nat) : List Nat := l.foldl (stpR t) out
def itN (f : List Nat → List Nat) : Nat → List Nat → List Nat
  | 0, o => o
  | n + 1, o => f (itN f n o)
def rchL (l : List Rcd) (x : Nat) (t : Int) : List Nat := itN (pasL l t) l.length [x]
def RL (l : List Rcd) (t : Int) (x y : Nat) : Prop := ∃ r, r ∈ l ∧ t ≤ r.t ∧ (r.u = x ∧ r.v = y ∨ r.u = y ∧ r.v = x)
theorem RL.sym {l : List Rcd} {t : Int} : ∀ x y, RL l t x y → RL l t y x := fun x y ⟨r, h1, h2, h3⟩ => ⟨r, h1, h2, h3.symm⟩
theorem mem_addI {l : List Nat} {x y : Nat} : y ∈ addI l x ↔ y ∈ l ∨ y = x := by
  unfold addI
  by_cases c : x ∈ l
  · rw [if_pos c]; exact ⟨.inl, fun h => h.elim id fun e => e ▸ c⟩
  · rw [if_neg c, List.mem_append, List.mem_singleton]
theorem nodup_snoc {l : List Nat} {x : Nat} (h : l.Nodup) (hx : x ∉ l) : (l ++ [x]).Nodup := by
  refine List.nodup_append.2 ⟨h, List.nodup_cons.2 ⟨List.not_mem_nil, List.nodup_nil⟩, fun a ha b hb e => ?_⟩
  rw [List.mem_singleton] at hb
  exact hx (by rw [← hb, ← e]; exact ha)
theorem nodup_addI {l : List Nat} {x : Nat} (h : l.Nodup) : (addI l x).Nodup := by
  unfold addI
  by_cases c : x ∈ l
  · rw [if_pos c]; exact h
  · rw [if_neg c]; exact nodup_snoc h c
theorem mem_foldR {y : Nat} : ∀ (l : List Rcd) (o : List Nat), y ∈ l.foldl addR o ↔ y ∈ o ∨ ∃ r, r ∈ l ∧ (r.u = y ∨ r.v = y)
  | [], o => ⟨.inl, fun h => h.elim id fun ⟨_, h, _⟩ => absurd h List.not_mem_nil⟩
  | r :: l, o => by
    show y ∈ l.foldl addR (addR o r) ↔ _
    rw [mem_foldR l (addR o r)]
    unfold addR
    rw [mem_addI, mem_addI]
    constructor
    · rintro (((h | h) | h) | ⟨q, h1, h2⟩)
      · exact .inl h
      · exact .inr ⟨r, List.mem_cons_self, .inl h.symm⟩
      · exact .inr ⟨r, List.mem_cons_self, .inr h.symm⟩
      · exact .inr ⟨q, List.mem_cons_of_mem _ h1, h2⟩
    · rintro (h | ⟨q, h1, h2⟩)
      · exact .inl (.inl (.inl h))
      · rcases List.mem_cons.1 h1 with e | e
        · subst e
          rcases h2 with h2 | h2
          · exact .inl (.inl (.inr h2.symm))
          · exact .inl (.inr h2.symm)
        · exact .inr ⟨q, e, h2⟩
theorem mem_idsL {y : Nat} {l : List Rcd} : y ∈ idsL l ↔ ∃ r, r ∈ l ∧ (r.u = y ∨ r.v = y) := by
  unfold idsL
  rw [mem_foldR]
  exact ⟨fun h => h.elim (fun h => absurd h List.not_mem_nil) id, .inr⟩
theorem nodup_foldR : ∀ (l : List Rcd) (o : List Nat), o.Nodup → (l.foldl addR o).Nodup
  | [], _, h => h
  | r :: l, o, h => nodup_foldR l (addR o r) (nodup_addI (nodup_addI h))
theorem nodup_idsL (l : List Rcd) : (idsL l).Nodup := nodup_foldR l [] List.nodup_nil
theorem idsL_snoc (l : List Rcd) (r : Rcd) : idsL (l ++ [r]) = addR (idsL l) r := by unfold idsL; rw [List.foldl_append]; rfl
theorem stp_cases (t : Int) (out : List Nat) (r : Rcd) : stpR t out r = out ∧ (t ≤ r.t → (r.u ∈ out ↔ r.v ∈ out)) ∨ ∃ x y, stpR t out r = out ++ [y] ∧ x ∈ out ∧ y ∉ out ∧ t ≤ r.t ∧ (r.u = x ∧ r.v = y ∨ r.u = y ∧ r.v = x) := by
  unfold stpR
  by_cases c : r.t < t
  · rw [if_pos c]; exact .inl ⟨rfl, fun k => absurd k (by omega)⟩
  rw [if_neg c]
  by_cases c1 : r.u ∈ out ∧ r.v ∉ out
  · rw [if_pos c1]; exact .inr ⟨r.u, r.v, rfl, c1.1, c1.2, by omega, .inl ⟨rfl, rfl⟩⟩
  rw [if_neg c1]
  by_cases c2 : r.v ∈ out ∧ r.u ∉ out
  · rw [if_pos c2]; exact .inr ⟨r.v, r.u, rfl, c2.1, c2.2, by omega, .inr ⟨rfl, rfl⟩⟩
  rw [if_neg c2]
  exact .inl ⟨rfl, fun _ => ⟨fun h => Classical.byContradiction fun k => c1 ⟨h, k⟩, fun h => Classical.byContradiction fun k => c2 ⟨h, k⟩⟩⟩
theorem pas_sub {t : Int} {x : Nat} : ∀ (l : List Rcd) (out : List Nat), x ∈ out → x ∈ pasL l t out
  | [], _, h => h
  | r :: l, out, h => by
    show x ∈ pasL l t (stpR t out r)
    refine pas_sub l _ ?_
    rcases stp_cases t out r with ⟨e, _⟩ | ⟨_, y, e, _⟩
    · rw [e]; exact h
    · rw [e]; exact List.mem_append_left _ h
theorem pas_len {t : Int} : ∀ (l : List Rcd) (out : List Nat), out.length ≤ (pasL l t out).length
  | [], _ => Nat.le_refl _
  | r :: l, out => by
    show _ ≤ (pasL l t (stpR t out r)).length
    refine Nat.le_trans ?_ (pas_len l _)
    rcases stp_cases t out r with ⟨e, _⟩ | ⟨_, y, e, _⟩
    · rw [e]; exact Nat.le_refl _
    · rw [e, List.length_append]; omega
theorem pas_nodup {t : Int} : ∀ (l : List Rcd) (out : List Nat), out.Nodup → (pasL l t out).Nodup
  | [], _, h => h
  | r :: l, out, h => by
    show (pasL l t (stpR t out r)).Nodup
    refine pas_nodup l _ ?_
    rcases stp_cases t out r with ⟨e, _⟩ | ⟨_, y, e, _, hy, _⟩
    · rw [e]; exact h
    · rw [e]; exact nodup_snoc h hy
theorem pas_fix {t : Int} : ∀ (l : List Rcd) (out : List Nat), pasL l t out = out → ∀ r, r ∈ l → t ≤ r.t → (r.u ∈ out ↔ r.v ∈ out)
  | [], _, _, r, h, _ => absurd h List.not_mem_nil
  | r :: l, out, hf, q, hq, ht => by
    have hf' : pasL l t (stpR t out r) = out := hf
    rcases stp_cases t out r with ⟨e, h⟩ | ⟨_, y, e, _⟩
    · rw [e] at hf'
      rcases List.mem_cons.1 hq with c | c
      · subst c; exact h ht
      · exact pas_fix l out hf' q c ht
    · rw [e] at hf'
      have := pas_len (t := t) l (out ++ [y])
      rw [hf', List.length_append] at this
      exact absurd this (by simp)
theorem pas_new {t : Int} : ∀ (l : List Rcd) (out : List Nat), pasL l t out ≠ out → ∃ r, r ∈ l ∧ t ≤ r.t ∧ ¬ (r.u ∈ out ∧ r.v ∈ out) ∧ r.u ∈ pasL l t out ∧ r.v ∈ pasL l t out
  | [], _, h => absurd rfl h
  | r :: l, out, h => by
    have h' : pasL l t (stpR t out r) ≠ out := h
    show ∃ q, q ∈ r :: l ∧ t ≤ q.t ∧ ¬ (q.u ∈ out ∧ q.v ∈ out) ∧ q.u ∈ pasL l t (stpR t out r) ∧ q.v ∈ pasL l t (stpR t out r)
    rcases stp_cases t out r with ⟨e, _⟩ | ⟨x, y, e, hx, hy, ht, k⟩
    · rw [e] at h' ⊢
      obtain ⟨q, h1, h2⟩ := pas_new l out h'
      exact ⟨q, List.mem_cons_of_mem _ h1, h2⟩
    · rw [e]
      have m1 : x ∈ pasL l t (out ++ [y]) := pas_sub l _ (List.mem_append_left _ hx)
      have m2 : y ∈ pasL l t (out ++ [y]) := pas_sub l _ (List.mem_append_right _ (List.mem_singleton.2 rfl))
      refine ⟨r, List.mem_cons_self, ht, ?_, ?_⟩
      · rcases k with ⟨k1, k2⟩ | ⟨k1, k2⟩
        · rw [k2]; exact fun c => hy c.2
        · rw [k1]; exact fun c => hy c.1
      · rcases k with ⟨k1, k2⟩ | ⟨k1, k2⟩
        · rw [k1, k2]; exact ⟨m1, m2⟩
        · rw [k1, k2]; exact ⟨m2, m1⟩
def ful (l : List Rcd) (t : Int) (out : List Nat) : Nat := l.countP fun r => decide (t ≤ r.t ∧ r.u ∈ out ∧ r.v ∈ out)
theorem countP_lt {α : Type} {p q : α → Bool} : ∀ l : List α, (∀ r, r ∈ l → p r = true → q r = true) → (∃ r, r ∈ l ∧ q r = true ∧ p r = false) → l.countP p + 1 ≤ l.countP q
  | [], _, ⟨_, h, _⟩ => absurd h List.not_mem_nil
  | a :: l, hi, ⟨r, hr, hq, hp⟩ => by
    have hmono : l.countP p ≤ l.countP q := List.countP_mono_left fun x hx => hi x (List.mem_cons_of_mem _ hx)
    rw [List.countP_cons, List.countP_cons]
    rcases List.mem_cons.1 hr with c | c
    · subst c
      rw [hp, hq]
      simp
      omega
    · have ih := countP_lt l (fun x hx => hi x (List.mem_cons_of_mem _ hx)) ⟨r, c, hq, hp⟩
      by_cases d : p a = true
      · rw [if_pos d, if_pos (hi a List.mem_cons_self d)]; omega
      · rw [if_neg d]
        split <;> omega
theorem ful_up {l : List Rcd} {t : Int} {out : List Nat} (h : pasL l t out ≠ out) : ful l t out + 1 ≤ ful l t (pasL l t out) := by
  refine countP_lt l (fun r hr k => ?_) ?_
  · have := of_decide_eq_true k
    exact decide_eq_true ⟨this.1, pas_sub l _ this.2.1, pas_sub l _ this.2.2⟩
  · obtain ⟨r, h1, h2, h3, h4, h5⟩ := pas_new l out h
    exact ⟨r, h1, decide_eq_true ⟨h2, h4, h5⟩, decide_eq_false fun k => h3 k.2⟩
theorem it_fix (l : List Rcd) (t : Int) (o : List Nat) : ∀ n, pasL l t (itN (pasL l t) n o) = itN (pasL l t) n o ∨ n ≤ ful l t (itN (pasL l t) n o)
  | 0 => .inr (Nat.zero_le _)
  | n + 1 => by
    show pasL l t (pasL l t (itN (pasL l t) n o)) = pasL l t (itN (pasL l t) n o) ∨ n + 1 ≤ ful l t (pasL l t (itN (pasL l t) n o))
    by_cases c : pasL l t (itN (pasL l t) n o) = itN (pasL l t) n o
    · exact .inl (by rw [c, c])
    · rcases it_fix l t o n with h | h
      · exact absurd h c
      · have := ful_up c
        exact .inr (by omega)
theorem rch_fix (l : List Rcd) (x : Nat) (t : Int) : pasL l t (rchL l x t) = rchL l x t := by
  unfold rchL
  rcases it_fix l t [x] l.length with h | h
  · exact h
  · refine Classical.byContradiction fun c => ?_
    have h1 := ful_up c
    have h2 : ful l t (pasL l t (itN (pasL l t) l.length [x])) ≤ l.length := List.countP_le_length
    omega
theorem pas_rch {L : List Rcd} {t : Int} {x : Nat} : ∀ (l : List Rcd) (out : List Nat), (∀ r, r ∈ l → r ∈ L) → (∀ y, y ∈ out → Rch (RL L t) x y) → ∀ y, y ∈ pasL l t out → Rch (RL L t) x y
  | [], _, _, h => h
  | r :: l, out, hl, h => by
    show ∀ y, y ∈ pasL l t (stpR t out r) → _
    refine pas_rch l _ (fun q hq => hl q (List.mem_cons_of_mem _ hq)) ?_
    rcases stp_cases t out r with ⟨e, _⟩ | ⟨a, b, e, ha, hb, ht, k⟩
    · rw [e]; exact h
    · rw [e]
      intro y hy
      rcases List.mem_append.1 hy with hy | hy
      · exact h y hy
      · rw [List.mem_singleton.1 hy]
        exact .step (h a ha) ⟨r, hl r List.mem_cons_self, ht, k⟩
theorem it_rch {l : List Rcd} {t : Int} {x : Nat} : ∀ n y, y ∈ itN (pasL l t) n [x] → Rch (RL l t) x y
  | 0, y, h => by rw [List.mem_singleton.1 h]; exact .refl
  | n + 1, y, h => pas_rch l _ (fun _ h => h) (it_rch n) y h
theorem it_self {l : List Rcd} {t : Int} {x : Nat} : ∀ n, x ∈ itN (pasL l t) n [x]
  | 0 => List.mem_singleton.2 rfl
  | n + 1 => pas_sub l _ (it_self n)
theorem it_nodup {l : List Rcd} {t : Int} {x : Nat} : ∀ n, (itN (pasL l t) n [x]).Nodup
  | 0 => List.nodup_cons.2 ⟨List.not_mem_nil, List.nodup_nil⟩
  | n + 1 => pas_nodup l _ (it_nodup n)
theorem nodup_rchL (l : List Rcd) (x : Nat) (t : Int) : (rchL l x t).Nodup := it_nodup _
theorem mem_rchL {l : List Rcd} {x y : Nat} {t : Int} : y ∈ rchL l x t ↔ Rch (RL l t) x y := by
  refine ⟨it_rch _ y, fun h => ?_⟩
  refine h.stay (S := fun z => z ∈ rchL l x t) (fun a b ha ⟨r, h1, h2, h3⟩ => ?_) (it_self _)
  have := pas_fix l _ (rch_fix l x t) r h1 h2
  rcases h3 with ⟨e1, e2⟩ | ⟨e1, e2⟩
  · rw [e1, e2] at this; exact this.1 ha
  · rw [e1, e2] at this; exact this.2 ha
theorem rch_ids {l : List Rcd} {x y : Nat} {t : Int} (h : Rch (RL l t) x y) : x = y ∨ (x ∈ idsL l ∧ y ∈ idsL l) := by
  induction h with
  | refl => exact .inl rfl
  | @step a b _ k ih =>
    obtain ⟨r, h1, h2, h3⟩ := k
    have hb : b ∈ idsL l := mem_idsL.2 ⟨r, h1, by rcases h3 with ⟨_, e⟩ | ⟨e, _⟩; exact .inr e; exact .inl e⟩
    have ha : a ∈ idsL l := mem_idsL.2 ⟨r, h1, by rcases h3 with ⟨e, _⟩ | ⟨_, e⟩; exact .inl e; exact .inr e⟩
    rcases ih with e | e
    · subst e; exact .inr ⟨ha, hb⟩
    · exact .inr ⟨e.1, hb⟩
def MINT : Int := -9223372036854775808
def bstF (L : List Rcd) (u v : Nat) (b : Int) (r : Rcd) : Int := if b < r.t ∧ v ∈ rchL L u r.t then r.t else b
def bestL (L : List Rcd) (u v : Nat) : Int := L.foldl (bstF L u v) MINT
theorem bst_fold {L : List Rcd} {u v : Nat} {T : Int} : ∀ (l : List Rcd) (b : Int), (∀ r, r ∈ l → v ∈ rchL L u r.t → r.t ≤ T) → b ≤ T → (b = T ∨ ∃ r, r ∈ l ∧ r.t = T ∧ v ∈ rchL L u r.t) → l.foldl (bstF L u v) b = T
  | [], b, _, _, h => h.elim id fun ⟨_, h, _⟩ => absurd h List.not_mem_nil
  | r :: l, b, h1, h2, h3 => by
    show l.foldl (bstF L u v) (bstF L u v b r) = T
    refine bst_fold l _ (fun q hq => h1 q (List.mem_cons_of_mem _ hq)) ?_ ?_
    · unfold bstF
      split
      · rename_i c; exact h1 r List.mem_cons_self c.2
      · exact h2
    · rcases h3 with h3 | ⟨q, hq, h4, h5⟩
      · left
        unfold bstF
        rw [if_neg]
        · exact h3
        · rintro ⟨c1, c2⟩
          have := h1 r List.mem_cons_self c2
          omega
      · rcases List.mem_cons.1 hq with c | c
        · subst c
          left
          unfold bstF
          by_cases d : b < q.t
          · rw [if_pos ⟨d, h5⟩]; exact h4
          · rw [if_neg (fun k => d k.1)]; omega
        · exact .inr ⟨q, c, h4, h5⟩
def chkL (E V : Nat) (l : List Rcd) (r : Rcd) : Nat := if E ≤ l.length then 12 else if V < (idsL (l ++ [r])).length then 11 else 0
theorem len_addI (l : List Nat) (x : Nat) : (addI l x).length = l.length + if x ∈ l then 0 else 1 := by
  unfold addI
  by_cases c : x ∈ l
  · rw [if_pos c, if_pos c]; rfl
  · rw [if_neg c, if_neg c, List.length_append]; rfl
theorem ids_mono {l l' : List Rcd} (h : ∀ r, r ∈ l → r ∈ l') : (idsL l).length ≤ (idsL l').length :=
  List.Nodup.length_le_of_subset (nodup_idsL l) fun x hx => by
    obtain ⟨r, h1, h2⟩ := mem_idsL.1 hx
    exact mem_idsL.2 ⟨r, h r h1, h2⟩
theorem chk_mono {E V : Nat} {l : List Rcd} {r : Rcd} (h : chkL E V l r = 0) (p : Rcd → Bool) : chkL E V (l.filter p) r = 0 := by
  unfold chkL at h ⊢
  by_cases c : E ≤ l.length
  · rw [if_pos c] at h; cases h
  rw [if_neg c] at h
  by_cases d : V < (idsL (l ++ [r])).length
  · rw [if_pos d] at h; cases h
  have h1 := List.length_filter_le p l
  have h2 := ids_mono (l := l.filter p ++ [r]) (l' := l ++ [r]) fun q hq => by
    rcases List.mem_append.1 hq with k | k
    · exact List.mem_append_left _ (List.mem_filter.1 k).1
    · exact List.mem_append_right _ k
  rw [if_neg (by omega), if_neg (by omega)]
section
open Classical
theorem cntP_list (P : Nat → Prop) : ∀ n, cntP P n = ((List.range n).filter fun x => decide (P x)).length
  | 0 => rfl
  | n + 1 => by
    rw [List.range_succ, List.filter_append, List.length_append, ← cntP_list P n]
    show cntP P n + (if P n then 1 else 0) = _
    by_cases c : P n
    · rw [if_pos c, List.filter_cons_of_pos (by exact decide_eq_true c)]; rfl
    · rw [if_neg c, List.filter_cons_of_neg (by rw [decide_eq_false c]; decide)]; rfl
theorem nodup_mapP {P : Nat → Prop} {n : Nat} {f : Nat → Nat} (hi : ∀ x y, x < n → y < n → P x → P y → f x = f y → x = y) : (((List.range n).filter fun x => decide (P x)).map f).Nodup := by
  refine List.pairwise_map.2 ?_
  refine ((List.nodup_range (n := n)).filter _).imp_of_mem ?_
  intro a b ha hb hne e
  rw [List.mem_filter, List.mem_range, decide_eq_true_eq] at ha hb
  exact hne (hi a b ha.1 hb.1 ha.2 hb.2 e)
theorem cnt_names {P : Nat → Prop} {V : Nat} {L : List Nat} {D : Nat → Nat} (hL : L.Nodup) (hD : ∀ x y, x < V → y < V → P x → P y → D x = D y → x = y) (h : ∀ y, y ∈ L ↔ ∃ x, x < V ∧ P x ∧ D x = y) : cntP P V = L.length := by
  rw [cntP_list P, ← List.length_map (f := D)]
  refine ((List.perm_ext_iff_of_nodup (nodup_mapP hD) hL).2 fun y => ?_).length_eq
  rw [List.mem_map, h y]
  constructor
  · rintro ⟨x, hx, e⟩
    rw [List.mem_filter, List.mem_range, decide_eq_true_eq] at hx
    exact ⟨x, hx.1, hx.2, e⟩
  · rintro ⟨x, h1, h2, e⟩
    exact ⟨x, List.mem_filter.2 ⟨List.mem_range.2 h1, decide_eq_true h2⟩, e⟩
end
end Go.Proofs.YtlooaipipmiijaaGreat

namespace Go.Proofs.YtlooaipipmiijaaGreat
set_option linter.unusedVariables false
set_option linter.unusedSimpArgs false
open Go.RowKit
def Lr.rcd (r : Lr) : Rcd := ⟨r.u, r.v, r.wt, r.t⟩
structure WnE (G : WnG) (ge : Nat → GE) (F : Nat → Prop) : Prop where
  stl : StL G.g
  gV : G.g.V = G.V
  gE : G.g.E = G.E
  fV : G.f.V = G.V
  fS : G.f.S = G.E
  fo : FoP G.f ge G.g.Lv F
  ge : ∀ s, G.g.Lv s → (ge s).exp = (G.g.R s).ex ∧ (G.g.LvT (ge s).a ∧ G.g.D (ge s).a = (G.g.R s).u) ∧ (G.g.LvT (ge s).b ∧ G.g.D (ge s).b = (G.g.R s).v)
  ex : ∀ s, G.g.Lv s → (G.g.R s).ex = (G.g.R s).t + G.W ∧ (G.g.R s).ex ≤ 9223372036854775807
  last : G.g.last = G.add
  cfg : 1 ≤ G.E ∧ G.E ≤ 16384 ∧ 2 ≤ G.V ∧ G.V ≤ 4096 ∧ 1 ≤ G.W ∧ G.W ≤ 9223372036854775807
structure WnL (G : WnG) (all : List Rcd) : Prop where
  ed : ∃ ge F, WnE G ge F
  q : G.Q = G.f.Q
  now : 0 ≤ G.now ∧ G.now ≤ 9223372036854775807
  live : ∀ s, G.g.Lv s → G.now < (G.g.R s).ex
  all : ∃ ss : List Nat, ss.Nodup ∧ (∀ s, s ∈ ss ↔ G.g.Lv s) ∧ all = ss.map (fun s => (G.g.R s).rcd)
section
variable {G : WnG} {ge : Nat → GE} {F : Nat → Prop}
theorem end_known {g : SG} (h : StL g) {s id : Nat} (hs : Ends g id s) : ∃ i, g.LvT i ∧ g.D i = id :=
  (h.ids.table id).1 ((h.ids.known id).2 ⟨s, hs⟩)
theorem WnE.remove (h : WnE G ge F) {slot : Nat} {f' : FoG} {F' : Nat → Prop} {g' : SG} (hs : G.g.Lv slot) (hf : FoP f' ge (fun t => G.g.Lv t ∧ t ≠ slot) F') (fV : f'.V = G.f.V) (fS : f'.S = G.f.S) (hg : StL g') (gV : g'.V = G.g.V) (gE : g'.E = G.g.E) (gl : g'.last = G.g.last) (hLv : g'.Lv = (fun x => G.g.Lv x ∧ x ≠ slot)) (hR : ∀ s, s ≠ slot → g'.R s = G.g.R s) (hT : ∀ i, g'.LvT i → G.g.LvT i ∧ g'.D i = G.g.D i)
    {G' : WnG} (e1 : G'.g = g') (e2 : G'.f = f') (e3 : G'.V = G.V) (e4 : G'.E = G.E) (e5 : G'.W = G.W) (e6 : G'.add = G.add) : WnE G' ge F' := by
  have hinj := h.stl.ids.inj
  refine ⟨by rw [e1]; exact hg, by rw [e1, e3, gV]; exact h.gV, by rw [e1, e4, gE]; exact h.gE, by rw [e2, e3, fV]; exact h.fV, by rw [e2, e4, fS]; exact h.fS, by rw [e1, e2, hLv]; exact hf, fun s k => ?_, fun s k => ?_, by rw [e1, e6, gl]; exact h.last, by rw [e3, e4, e5]; exact h.cfg⟩
  · rw [e1] at k ⊢
    have k' := k
    rw [hLv] at k'
    obtain ⟨k1, k2⟩ := k'
    obtain ⟨a1, ⟨a2, a3⟩, a4, a5⟩ := h.ge s k1
    rw [hR s k2]
    refine ⟨a1, ?_, ?_⟩
    · obtain ⟨i, i1, i2⟩ := end_known hg (id := (G.g.R s).u) ⟨k, .inl (by rw [hR s k2])⟩
      obtain ⟨i3, i4⟩ := hT i i1
      have : i = (ge s).a := hinj _ _ i3 a2 (by rw [← i4, i2, a3])
      rw [← this]; exact ⟨i1, i2⟩
    · obtain ⟨i, i1, i2⟩ := end_known hg (id := (G.g.R s).v) ⟨k, .inr (by rw [hR s k2])⟩
      obtain ⟨i3, i4⟩ := hT i i1
      have : i = (ge s).b := hinj _ _ i3 a4 (by rw [← i4, i2, a5])
      rw [← this]; exact ⟨i1, i2⟩
  · rw [e1] at k ⊢
    rw [hLv] at k
    rw [hR s k.2, e5]; exact h.ex s k.1
theorem WnE.insert (h : WnE G ge F) {slot x y : Nat} {r : Lr} {f' : FoG} {F' : Nat → Prop} {g' : SG} (hs : ¬ G.g.Lv slot) (hf : FoP f' (upF ge slot ⟨x, y, r.ex⟩) (fun t => G.g.Lv t ∨ t = slot) F') (fV : f'.V = G.f.V) (fS : f'.S = G.f.S) (hg : StL g') (gV : g'.V = G.g.V) (gE : g'.E = G.g.E) (hLv : g'.Lv = (fun x => G.g.Lv x ∨ x = slot)) (hR : ∀ s, G.g.Lv s → g'.R s = G.g.R s) (hr : g'.R slot = r) (hT : ∀ i, G.g.LvT i → g'.LvT i ∧ g'.D i = G.g.D i)
    (hx : g'.LvT x ∧ g'.D x = r.u) (hy : g'.LvT y ∧ g'.D y = r.v) (hex : r.ex = r.t + G.W ∧ r.ex ≤ 9223372036854775807)
    {G' : WnG} (e1 : G'.g = g') (e2 : G'.f = f') (e3 : G'.V = G.V) (e4 : G'.E = G.E) (e5 : G'.W = G.W) (e6 : g'.last = G'.add) : WnE G' (upF ge slot ⟨x, y, r.ex⟩) F' := by
  refine ⟨by rw [e1]; exact hg, by rw [e1, e3, gV]; exact h.gV, by rw [e1, e4, gE]; exact h.gE, by rw [e2, e3, fV]; exact h.fV, by rw [e2, e4, fS]; exact h.fS, by rw [e1, e2, hLv]; exact hf, fun s k => ?_, fun s k => ?_, by rw [e1]; exact e6, by rw [e3, e4, e5]; exact h.cfg⟩
  · rw [e1] at k ⊢
    rw [hLv] at k
    rcases k with k | k
    · have hne : s ≠ slot := fun c => hs (c ▸ k)
      obtain ⟨a1, ⟨a2, a3⟩, a4, a5⟩ := h.ge s k
      rw [uF_ne _ _ hne, hR s k]
      exact ⟨a1, ⟨(hT _ a2).1, by rw [(hT _ a2).2]; exact a3⟩, (hT _ a4).1, by rw [(hT _ a4).2]; exact a5⟩
    · rw [k, uF_same, hr]
      exact ⟨rfl, hx, hy⟩
  · rw [e1] at k ⊢
    rw [hLv] at k
    rcases k with k | k
    · rw [hR s k, e5]; exact h.ex s k
    · rw [k, hr, e5]; exact hex
theorem WnE.ent (h : WnE G ge F) {i k : Int} : (i, k) ∈ G.f.Q ↔ ∃ s : Nat, i = (s : Int) ∧ G.g.Lv s ∧ k = (G.g.R s).ex := by
  rw [h.fo.que i k]
  constructor
  · rintro ⟨s, h1, h2, h3⟩; exact ⟨s, h1, h2, by rw [h3]; exact (h.ge s h2).1⟩
  · rintro ⟨s, h1, h2, h3⟩; exact ⟨s, h1, h2, by rw [h3]; exact (h.ge s h2).1.symm⟩
end
end Go.Proofs.YtlooaipipmiijaaGreat

namespace Go.Proofs.YtlooaipipmiijaaGreat
set_option linter.unusedVariables false
set_option linter.unusedSimpArgs false
open Go.RowKit
structure CfgE (G G' : WnG) : Prop where
  W : G'.W = G.W
  E : G'.E = G.E
  V : G'.V = G.V
  D : G'.D = G.D
theorem CfgE.refl (G : WnG) : CfgE G G := ⟨rfl, rfl, rfl, rfl⟩
theorem CfgE.trans {G G1 G2 : WnG} (h : CfgE G G1) (k : CfgE G1 G2) : CfgE G G2 := ⟨k.W.trans h.W, k.E.trans h.E, k.V.trans h.V, k.D.trans h.D⟩
structure WnTk (w : World) (b : Nat) (G : WnG) (all : List Rcd) (tt : Int) (e : Ending) (w' : World) : Prop where
  val : e = .returned (.int .i64 (clkE G.W G.now tt))
  out : ∃ G', WnS b G w G' w' ∧ CfgE G G' ∧ G'.add = G.add ∧ (clkE G.W G.now tt = 0 → WnL G' (all.filter fun r => decide (tt < r.t + G.W)) ∧ G'.now = tt) ∧ (clkE G.W G.now tt ≠ 0 → WnL G' all ∧ G'.now = G.now)
structure TkI (G0 : WnG) (n k : Nat) (tt : Int) (G : WnG) : Prop where
  ed : ∃ ge F, WnE G ge F
  fQ : G.f.Q = G0.Q.drop k
  Q : G.Q = G0.Q.drop n
  Lv : ∀ s, G.g.Lv s ↔ G0.g.Lv s ∧ ∀ i, i < k → (ent G0.Q i).1 ≠ (s : Int)
  R : ∀ s, G.g.Lv s → G.g.R s = G0.g.R s
  now : G.now = tt
  cfg : CfgE G0 G
  add : G.add = G0.add
theorem clk_zero {W now tt : Int} (h : clkE W now tt = 0) (hW : 1 ≤ W) (hn : 0 ≤ now) : now ≤ tt ∧ tt + W ≤ 9223372036854775807 := by
  unfold clkE at h
  by_cases c : tt < now
  · rw [if_pos c] at h; omega
  · rw [if_neg c] at h
    unfold caddE at h
    by_cases d : -9223372036854775808 ≤ tt + W ∧ tt + W ≤ 9223372036854775807
    · exact ⟨by omega, d.2⟩
    · rw [if_neg d] at h; omega
theorem u64_wrap_nat (x : Int) : ∃ n : Nat, IntKind.u64.wrap x = (n : Int) := by
  refine ⟨(IntKind.u64.wrap x).toNat, ?_⟩
  have : 0 ≤ IntKind.u64.wrap x := by
    show 0 ≤ x % (2 ^ 64 : Int)
    exact Int.emod_nonneg _ (by decide)
  omega
theorem ent_drop {Q : List Ent} {k : Nat} (h : k < Q.length) : Q.drop k = ent Q k :: Q.drop (k + 1) := by
  rw [ent_eq h]; exact List.drop_eq_getElem_cons h
theorem TkI.done {G0 G : WnG} {all : List Rcd} {tt : Int} (h0 : WnL G0 all) (hs : Sorted G0.Q) (h : TkI G0 (dueN G0.Q tt) (dueN G0.Q tt) tt G) (ht : 0 ≤ tt ∧ tt ≤ 9223372036854775807) : WnL G (all.filter fun r => decide (tt < r.t + G0.W)) := by
  obtain ⟨ge0, F0, he0⟩ := h0.ed
  obtain ⟨hf1, hf2⟩ := due_filter hs tt
  have hn : dueN G0.Q tt = (G0.Q.takeWhile (isDue tt)).length := rfl
  have htake : G0.Q.take (dueN G0.Q tt) = G0.Q.filter (isDue tt) := by
    rw [← hf1, hn]
    exact (List.prefix_iff_eq_take.1 (List.takeWhile_prefix _)).symm
  have key : ∀ s, G.g.Lv s ↔ G0.g.Lv s ∧ tt < (G0.g.R s).ex := fun s => by
    rw [h.Lv s]
    refine and_congr_right fun hs0 => ?_
    have hent := (he0.ent (i := (s : Int)) (k := (G0.g.R s).ex)).2 ⟨s, rfl, hs0, rfl⟩
    rw [← h0.q] at hent
    constructor
    · intro hno
      refine Classical.byContradiction fun c => ?_
      have hd : isDue tt ((s : Int), (G0.g.R s).ex) = true := by unfold isDue; exact decide_eq_true (by show (G0.g.R s).ex ≤ tt; omega)
      have hm : ((s : Int), (G0.g.R s).ex) ∈ G0.Q.take (dueN G0.Q tt) := by rw [htake]; exact List.mem_filter.2 ⟨hent, hd⟩
      obtain ⟨i, hi, hie⟩ := List.getElem_of_mem hm
      rw [List.length_take] at hi
      refine hno i (by omega) ?_
      rw [ent_eq (by omega)]
      rw [List.getElem_take] at hie
      rw [hie]
    · intro hlt i hi hie
      have hil : i < G0.Q.length := by have := dueN_le G0.Q tt; omega
      have hm : ent G0.Q i ∈ G0.Q.take (dueN G0.Q tt) := by
        rw [ent_eq hil]
        exact List.mem_take_iff_getElem.2 ⟨i, by omega, rfl⟩
      rw [htake, List.mem_filter] at hm
      obtain ⟨m1, m2⟩ := hm
      have m3 : ((ent G0.Q i).1, (ent G0.Q i).2) ∈ G0.f.Q := by rw [← h0.q]; exact m1
      obtain ⟨s', k1, k2, k3⟩ := he0.ent.1 m3
      have : s' = s := by omega
      subst this
      unfold isDue at m2
      have := of_decide_eq_true m2
      omega
  obtain ⟨ss, s1, s2, s3⟩ := h0.all
  refine ⟨h.ed, h.Q.trans h.fQ.symm, by rw [h.now]; exact ht, fun s hs' => ?_, ss.filter (fun s => decide (tt < (G0.g.R s).ex)), s1.filter _, fun s => ?_, ?_⟩
  · rw [h.R s hs', h.now]; exact ((key s).1 hs').2
  · rw [List.mem_filter, s2, decide_eq_true_eq, key s]
  · rw [s3, List.filter_map]
    have e1 : ss.filter ((fun r => decide (tt < r.t + G0.W)) ∘ fun s => (G0.g.R s).rcd) = ss.filter (fun s => decide (tt < (G0.g.R s).ex)) := by
      refine List.filter_congr fun s hs' => ?_
      show decide (tt < (G0.g.R s).t + G0.W) = _
      rw [(he0.ex s ((s2 s).1 hs')).1]
    rw [e1]
    refine List.map_congr_left fun s hs' => ?_
    rw [List.mem_filter, s2, decide_eq_true_eq] at hs'
    rw [h.R s ((key s).2 hs')]
theorem WnS.row {b : Nat} {G G1 : WnG} {w w1 : World} {T : TypeId} {size n : Nat} {v : Value} {xs : List Value} (h : WnS b G w G1 w1) (ho : w.ownsRow 0 T size v n xs) (hn : ∀ x, v.ownBlock = some x → ¬ G.foot b x) : w1.ownsRow 0 T size v n xs ∧ ∀ x, v.ownBlock = some x → ¬ G1.foot b x :=
  ⟨owns_modL ho h.mod hn, fun x e k => by
    have := (ho.lt x e).2
    rcases h.ft x k with a | a
    · exact hn x e a
    · omega⟩
end Go.Proofs.YtlooaipipmiijaaGreat

namespace Go.Proofs.YtlooaipipmiijaaGreat
set_option linter.unusedVariables false
set_option linter.unusedSimpArgs false
open Go.RowKit
structure TkL (w : World) (b : Nat) (G0 : WnG) (n k : Nat) (tt : Int) (v : Value) (Gk : WnG) (W : World) : Prop where
  st : WnS b G0 w Gk W
  ti : TkI G0 n k tt Gk
  row : W.ownsRow 0 3 1 v n ((G0.Q.take n).map fun e => .int .i64 e.1)
  nf : ∀ x, v.ownBlock = some x → ¬ Gk.foot b x
theorem TkL.step {w W W1 : World} {b : Nat} {G0 : WnG} {n k k' : Nat} {tt : Int} {v : Value} {Gk G1 : WnG} (h : TkL w b G0 n k tt v Gk W) (s : WnS b Gk W G1 W1) (ti : TkI G0 n k' tt G1) : TkL w b G0 n k' tt v G1 W1 :=
  ⟨h.st.trans s, ti, (s.row h.row h.nf).1, (s.row h.row h.nf).2⟩
theorem WnM.due {w : World} {b : Nat} {G : WnG} {v : Value} {Q' : List Ent} {qg' : HG} (h : WnM w b G) (hn : ∀ x, v.ownBlock = some x → ¬ qg'.foot x ∧ x ≠ G.ep ∧ w.heap.size ≤ x) (col : Nat → Nat) : ∀ x, v.ownBlock = some x → ¬ ({ G with Q := Q', qg := qg', col := col } : WnG).foot b x := by
  intro x hx
  obtain ⟨h1, h2, h3⟩ := hn x hx
  rintro (e | e | e | (e | e) | e)
  · have := h.box.lt; omega
  · have e' : x = G.cp := e
    have := h.clk.box.lt; omega
  · have := (h.k2 x e).1; omega
  · exact h2 e
  · exact h1 e
  · have := h.fo.foot_lt x e; omega
theorem TkI.next {G0 G : WnG} {all : List Rcd} {n k : Nat} {tt : Int} (h0 : WnL G0 all) (h : TkI G0 n k tt G) (hk : k < n) (hn : n ≤ G0.Q.length) : ∃ s : Nat, ent G0.Q k = ((s : Int), (ent G0.Q k).2) ∧ G.f.Q = ((s : Int), (ent G0.Q k).2) :: G0.Q.drop (k + 1) ∧ G.g.Lv s := by
  obtain ⟨ge, F, he⟩ := h.ed
  have e1 := h.fQ.trans (ent_drop (Q := G0.Q) (k := k) (by omega))
  have hm : ((ent G0.Q k).1, (ent G0.Q k).2) ∈ G.f.Q := by rw [e1]; exact List.mem_cons_self
  obtain ⟨s, h1, h2, h3⟩ := he.ent.1 hm
  have e2 : ent G0.Q k = ((s : Int), (ent G0.Q k).2) := Prod.ext h1 rfl
  exact ⟨s, e2, by rw [e1, ← e2], h2⟩
theorem TkI.round {G0 G G' : WnG} {n k s : Nat} {tt x : Int} (h : TkI G0 n k tt G) (hs : ent G0.Q k = ((s : Int), x)) (hl : G.g.Lv s) {f' : FoG} {g' : SG} {exs : ∃ ge F F', WnE G ge F ∧ FoP f' ge (fun t => G.g.Lv t ∧ t ≠ s) F'} (fV : f'.V = G.f.V) (fS : f'.S = G.f.S) (fQ : f'.Q = G0.Q.drop (k + 1)) (hg : StL g') (gV : g'.V = G.g.V) (gE : g'.E = G.g.E) (gl : g'.last = G.g.last) (hLv : g'.Lv = (fun x => G.g.Lv x ∧ x ≠ s)) (hR : ∀ t, t ≠ s → g'.R t = G.g.R t) (hT : ∀ i, g'.LvT i → G.g.LvT i ∧ g'.D i = G.g.D i)
    (e1 : G'.g = g') (e2 : G'.f = f') (e3 : CfgE G G') (e6 : G'.add = G.add) (e7 : G'.Q = G.Q) (e8 : G'.now = G.now) : TkI G0 n (k + 1) tt G' := by
  obtain ⟨ge, F, F', he, hf⟩ := exs
  refine ⟨⟨ge, F', he.remove hl hf fV fS hg gV gE gl hLv hR hT e1 e2 e3.V e3.E e3.W e6⟩, by rw [e2]; exact fQ, e7.trans h.Q, fun t => ?_, fun t ht => ?_, e8.trans h.now, h.cfg.trans e3, e6.trans h.add⟩
  · rw [e1, hLv]
    show G.g.Lv t ∧ t ≠ s ↔ _
    rw [h.Lv t]
    constructor
    · rintro ⟨⟨a1, a2⟩, a3⟩
      refine ⟨a1, fun i hi => ?_⟩
      by_cases c : i = k
      · rw [c, hs]; show (s : Int) ≠ t; omega
      · exact a2 i (by omega)
    · rintro ⟨a1, a2⟩
      refine ⟨⟨a1, fun i hi => a2 i (by omega)⟩, ?_⟩
      have := a2 k (by omega)
      rw [hs] at this
      have this' : (s : Int) ≠ t := this
      omega
  · rw [e1] at ht ⊢
    rw [hLv] at ht
    rw [hR t ht.2]; exact h.R t ht.1
theorem StL.tight {g : SG} (h : StL g) (A T : Nat → Prop) : StL { g with FA := A, FT := T } := ⟨h.ids.congr rfl rfl rfl rfl rfl rfl, h.own, h.seq, h.lvn, h.lvE, h.nl, h.szs⟩
theorem WnE.same {G G' : WnG} {ge : Nat → GE} {F : Nat → Prop} (h : WnE G ge F) (e1 : G'.g = G.g) (e2 : G'.f = G.f) (e3 : G'.V = G.V) (e4 : G'.E = G.E) (e5 : G'.W = G.W) (e6 : G'.add = G.add) : WnE G' ge F := by
  obtain ⟨a1, a2, a3, a4, a5, a6, a7, a8, a9, a10⟩ := h
  refine ⟨?_, ?_, ?_, ?_, ?_, ?_, ?_, ?_, ?_, ?_⟩ <;> simp only [e1, e2, e3, e4, e5, e6] <;> assumption
set_option maxHeartbeats 2000000 in
set_option maxRecDepth 100000 in
theorem wn_tick (w : World) (b : Nat) (G : WnG) (all : List Rcd) (h : WnM w b G) (hl : WnL G all) (tt : Int) (ht : -9223372036854775808 ≤ tt ∧ tt ≤ 9223372036854775807) :
    Calls Tryz.prog 9 #[.pointer (some ⟨b, 0, none⟩), .int .i64 tt] w (WnTk w b G all tt) := by
  have H := Lib.hid h
  have HL := Lib.hid hl
  have HT := Lib.hid ht
  have HV := Lib.hid (wn_valid b G.cp w h.c4)
  have HAD := Lib.hid (clk_advance w G.cp G.W G.now tt h.clk ht)
  have c4 := h.c4
  clear h hl ht
  go_enter Tryz.func9, Tryz.ntmps9
  by_cases hz : clkE G.W G.now tt = 0
  · have HZ := Lib.hid hz
    go_upto_region 6 with (first | (go_at_call 18; refine HV.out.mono ?_; rintro e w' ⟨rfl, rfl⟩) | (go_at_call 22; refine HAD.out.mono ?_; rintro e w1 ⟨rfl, ho, hmd⟩; rw [if_pos HZ.out] at ho; have HI1 := Lib.hid (H.out.sClk hmd ho); clear ho hmd; try rw [HZ.out]))
    clear hz c4 HV HAD
    have c6 := HI1.out.mem.c6
    have HDU := Lib.hid (edue_ok w1 G.ep G.E G.Q G.qp G.qg HI1.out.mem.sch tt)
    go_wp2_with (go_at_call 23; refine HDU.out.mono ?_; rintro e w2 hpost; obtain ⟨v, qg', he, ho, hrow, hmd, hft, hnf⟩ := hpost.out; subst he; obtain ⟨ao, cp, rfl⟩ := owns_slice hrow)
    have HI2 := Lib.hid (HI1.out.trans (HI1.out.mem.sSch hmd ho hft))
    have HNF := Lib.hid (HI1.out.mem.due (Q' := G.Q.drop (dueN G.Q tt)) hnf (reco w1 G.col 3))
    have HRW := Lib.hid hrow
    clear ho hmd hft hnf hrow
    have HT2 : Hid (TkI G (dueN G.Q tt) 0 tt { G with now := tt, Q := G.Q.drop (dueN G.Q tt), qg := qg', col := reco w1 G.col 3 }) := by
      obtain ⟨ge, F, he⟩ := HL.out.ed
      exact ⟨⟨ge, F, he.same rfl rfl rfl rfl rfl rfl⟩, HL.out.q.symm, rfl, fun s => ⟨fun k => ⟨k, fun i hi => absurd hi (Nat.not_lt_zero i)⟩, fun k => k.1⟩, fun s _ => rfl, rfl, ⟨rfl, rfl, rfl, rfl⟩, rfl⟩
    have HNL : Hid (dueN G.Q tt ≤ G.Q.length) := dueN_le _ _
    have HLK : Hid (TkL w b G (dueN G.Q tt) 0 tt (.slice ao (dueN G.Q tt) cp) { G with now := tt, Q := G.Q.drop (dueN G.Q tt), qg := qg', col := reco w1 G.col 3 } w2) := ⟨HI2.out, HT2.out, HRW.out, by have h1 := HNF.out; intro x hx; exact h1 x (by cases ao <;> exact hx)⟩
    have HDN : Hid (∀ G', TkI G (dueN G.Q tt) (dueN G.Q tt) tt G' → WnL G' (all.filter fun r => decide (tt < r.t + G.W))) := by
      show ∀ G', _
      intro G' hti
      have hz0 := clk_zero HZ.out (by obtain ⟨ge, F, he⟩ := HL.out.ed; exact he.cfg.2.2.2.2.1) HL.out.now.1
      exact hti.done HL.out (by rw [HL.out.q]; exact H.out.fo.que.sorted) ⟨by have := HL.out.now.1; omega, HT.out.2⟩
    clear HT2 HRW HNF HI2 HDU c6
    have HNB : Hid (dueN G.Q tt ≤ 65536) := by
      show _ ≤ _
      have h1 := HNL.out
      have h2 := H.out.sch.obj.good.len
      have h3 := H.out.sch.obj.perm.length_eq
      have h4 := H.out.sch.obj.hs
      obtain ⟨ge, F, he⟩ := HL.out.ed
      have h5 := he.cfg
      omega
    generalize dueN G.Q tt = n at *
    go_loopw [27] (fun s27 wr => ∃ (k : Nat) (Gk : WnG), k ≤ n ∧ s27 = .int .i64 (k : Int) ∧ TkL w b G n k tt (.slice ao n cp) Gk wr) (fun s27 _ => n - (intOf s27).toNat)
    case atStart => exact ⟨0, _, Nat.zero_le _, rfl, HLK.out⟩
    case round =>
      obtain ⟨k, Gk, hk, rfl, htk⟩ := hrel
      have HTK := Lib.hid htk
      clear htk HLK
      by_cases hlt : k < n
      · have t1 : decide ((k : Int) < (n : Int)) = true := decide_eq_true (by omega)
        have t2 : decide (k < n) = true := decide_eq_true hlt
        have hwk : IntKind.i64.wrap ((k : Int) + 1) = (k : Int) + 1 := IntWalk.i64_in _ (by have := HNB.out; omega)
        obtain ⟨s, hs1, hs2, hs3⟩ := HTK.out.ti.next HL.out hlt HNL.out
        obtain ⟨g3, cap3, hv3, _, _, hg3, hc3, _⟩ := owns_form HTK.out.row (by omega)
        injection hv3 with q1 _ q3
        subst q1 q3
        have cl : wr.cell? ⟨g3, k, none⟩ = some (.int .i64 (s : Int)) := by
          rw [hc3 k (by omega), List.getElem?_map, List.getElem?_take, if_pos hlt]
          have hkl : k < G.Q.length := by have := HNL.out; omega
          rw [List.getElem?_eq_getElem hkl, ← ent_eq hkl, hs1]
          rfl
        have ti2 : (k : Int) < (n : Int) := by omega
        obtain ⟨ge, F, he⟩ := HTK.out.ti.ed
        have HE := Lib.hid he
        have HS1 := Lib.hid hs1
        have HS3 := Lib.hid hs3
        have HKN := Lib.hid hlt
        have c7 := HTK.out.st.mem.c7
        have HEX := Lib.hid (fo_expire wr Gk.fp Gk.f ge Gk.g.Lv F HTK.out.st.mem.fo he.fo s _ _ hs2)
        clear hs1 hs2 hs3 hc3 hg3 he hlt
        go_upto_region 10 with (go_at_call 24; refine HEX.out.mono ?_; rintro e w3 ⟨rfl, f', F', hst, hfp, hfV, hfS, hfQ⟩; have HI3 := Lib.hid (HTK.out.st.mem.sFo hst); have HFP := Lib.hid hfp; have HFE : Hid (f'.V = Gk.f.V ∧ f'.S = Gk.f.S ∧ f'.Q = G.Q.drop (k + 1)) := ⟨hfV, hfS, hfQ⟩; clear hst hfp hfV hfS hfQ)
        have c5 := HI3.out.mem.c5
        have HRM := Lib.hid (st_remove w3 Gk.sp Gk.g HI3.out.mem.sto HE.out.stl s HS3.out)
        clear cl c7 HEX
        go_upto_region 11 with (go_at_call 25; refine HRM.out.mono ?_; rintro e w4 hpo; obtain ⟨g', he, hst, hsl, hgV, hgE, hgl, hgLv, hgR, hgT⟩ := hpo.ex; subst he)
        have HI4 := Lib.hid (HI3.out.trans (HI3.out.mem.sSto hst))
        have HGS : Hid (StL g' ∧ g'.V = Gk.g.V ∧ g'.E = Gk.g.E ∧ g'.last = Gk.g.last ∧ g'.Lv = (fun x => Gk.g.Lv x ∧ x ≠ s) ∧ (∀ t, t ≠ s → g'.R t = Gk.g.R t) ∧ ∀ i, g'.LvT i → Gk.g.LvT i ∧ g'.D i = Gk.g.D i) := ⟨hsl, hgV, hgE, hgl, hgLv, hgR, hgT⟩
        clear hst hsl hgV hgE hgl hgLv hgR hgT hpo c5 HRM HI3
        obtain ⟨m, hm⟩ := u64_wrap_nat ((Gk.exp : Int) + 1)
        have c9 := HI4.out.mem.c9
        have f9 := HI4.out.mem.box.free 9
        have HI5 := Lib.hid (HI4.out.trans (HI4.out.mem.sExp m))
        obtain ⟨G5, HI6, HT6⟩ : ∃ G5, Hid (WnS b Gk wr G5 (w4.setCell ⟨b, 9, none⟩ (.int .u64 (m : Int)))) ∧ Hid (TkI G n (k + 1) tt G5) := by
          refine ⟨_, HI5, ?_⟩
          obtain ⟨s1, s2, s3, s4, s5, s6, s7⟩ := HGS.out
          obtain ⟨t1, t2, t3⟩ := HFE.out
          exact HTK.out.ti.round HS1.out HS3.out (exs := ⟨ge, F, F', HE.out, HFP.out⟩) t1 t2 t3 (s1.tight (fun k => g'.FA k ∧ k < w4.heap.size) (fun k => g'.FT k ∧ k < w4.heap.size)) s2 s3 s4 s5 s6 s7 rfl rfl ⟨rfl, rfl, rfl, rfl⟩ rfl rfl rfl
        have HLK := Lib.hid (HTK.out.step HI6.out HT6.out)
        clear HI4 HI5 HI6 HT6 HTK HGS HFE HFP HE
        go_wp2_with fail
        go_roundw
        case rel => exact ⟨k + 1, G5, HKN.out, by go_num, HLK.out⟩
        case measure => have := HKN.out; simp [intOf]; omega
      · have t1 : decide ((k : Int) < (n : Int)) = false := decide_eq_false (by omega)
        have t2 : decide (k < n) = false := decide_eq_false hlt
        obtain rfl : k = n := by omega
        go_wp2_with fail
        go_ret
        refine ⟨by rw [HZ.out]; rfl, Gk, HTK.out.st, HTK.out.ti.cfg, HTK.out.ti.add, fun _ => ⟨HDN.out Gk HTK.out.ti, HTK.out.ti.now⟩, fun k => absurd HZ.out k⟩
  · have HZ := Lib.hid hz
    have t1 : (clkE G.W G.now tt == 0) = false := by rw [beq_eq_false_iff_ne]; exact hz
    have t1' : decide (clkE G.W G.now tt = 0) = false := decide_eq_false hz
    go_wp2_with (first | (go_at_call 18; refine HV.out.mono ?_; rintro e w' ⟨rfl, rfl⟩) | (go_at_call 22; refine HAD.out.mono ?_; rintro e w1 ⟨rfl, ho, hmd⟩; rw [if_neg HZ.out] at ho; have HI1 := Lib.hid (H.out.sClk hmd ho); clear ho hmd))
    go_ret
    exact ⟨rfl, _, HI1.out, ⟨rfl, rfl, rfl, rfl⟩, rfl, fun k => absurd k HZ.out, fun _ => ⟨HL.out, rfl⟩⟩
end Go.Proofs.YtlooaipipmiijaaGreat
