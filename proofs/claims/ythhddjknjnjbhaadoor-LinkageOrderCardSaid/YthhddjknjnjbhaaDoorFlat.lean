/- What comes in: types whose cells are all integers; slices of them. No program in sight. -/
import Derived.ProofKit
import Derived.OpenShut
import Derived.Deep.Slices
import Derived.Deep.Fields
import Derived.ChangeSame
namespace Go.Proofs.YthhddjknjnjbhaaDoor
set_option linter.unusedVariables false
set_option linter.unusedSimpArgs false
open Go.ChangeShapes Go.WideShapes Go.RowKit Go.Deep

/-- All cells of a value of type t are integers of these kinds. -/
def Flat (P : Program) (t : TypeId) (ks : List IntKind) : Prop :=
  P.cellsOf t = ks.length ∧ ∀ {H : Type} (enc : TypeId × Value → H) (w : World) (base : Nat) (spare : Nat → Bool) (held : Bool) (fuel : Nat) (cs : List Value) (x : DataW H × List MemPlace),
    DataW.trod enc P w base spare held fuel t cs = some x → ∃ zs : List Int, zs.length = ks.length ∧ cs = List.zipWith Value.int ks zs ∧ ∀ (j : Nat) (k : IntKind) (z : Int), ks[j]? = some k → zs[j]? = some z → (Lit.int k z).wf = true

theorem Flat.int {P : Program} {t : TypeId} {k : IntKind} (h : P.underlying t = some (.int k)) (hc : P.cellsOf t = 1) : Flat P t [k] := by
  refine ⟨hc, fun enc w base spare held fuel cs x hx => ?_⟩
  obtain ⟨n, rfl, _, hw⟩ := DataW.trod_int h hx
  refine ⟨[n], rfl, rfl, fun j k' z hk hz => ?_⟩
  cases j with
  | zero => simp only [List.getElem?_cons_zero, Option.some.injEq] at hk hz; subst hk; subst hz; exact hw
  | succ j => simp at hk

theorem flat_join (ks1 ks2 : List IntKind) (zs1 zs2 : List Int) (h : zs1.length = ks1.length) : List.zipWith Value.int (ks1 ++ ks2) (zs1 ++ zs2) = List.zipWith Value.int ks1 zs1 ++ List.zipWith Value.int ks2 zs2 :=
  List.zipWith_append h.symm

/-- Pieces one after the other. -/
theorem flat_pieces {cs : List Value} : ∀ (kss : List (List IntKind)) (o : Nat), (∀ (i : Nat) (ks : List IntKind), kss[i]? = some ks → ∃ zs : List Int, zs.length = ks.length ∧ (cs.drop (o + ((kss.take i).map List.length).sum)).take ks.length = List.zipWith Value.int ks zs ∧ ∀ (j : Nat) (k : IntKind) (z : Int), ks[j]? = some k → zs[j]? = some z → (Lit.int k z).wf = true) →
    ∃ zs : List Int, zs.length = kss.flatten.length ∧ (cs.drop o).take kss.flatten.length = List.zipWith Value.int kss.flatten zs ∧ ∀ (j : Nat) (k : IntKind) (z : Int), kss.flatten[j]? = some k → zs[j]? = some z → (Lit.int k z).wf = true
  | [], o, _ => ⟨[], rfl, by simp, fun j k z hk => by simp at hk⟩
  | ks :: kss, o, h => by
    obtain ⟨zs1, l1, e1, w1⟩ := h 0 ks rfl
    simp only [List.take_zero, List.map_nil, List.sum_nil, Nat.add_zero] at e1
    obtain ⟨zs2, l2, e2, w2⟩ := flat_pieces kss (o + ks.length) (fun i ks' hi => by
      obtain ⟨zs, l, e, w⟩ := h (i + 1) ks' (by simpa using hi)
      refine ⟨zs, l, ?_, w⟩
      rw [← e]
      simp only [List.take_succ_cons, List.map_cons, List.sum_cons]
      rw [Nat.add_assoc])
    refine ⟨zs1 ++ zs2, by simp [l1, l2], ?_, fun j k z hk hz => ?_⟩
    · rw [List.flatten_cons, flat_join _ _ _ _ l1, ← e1, ← e2, List.length_append, List.take_add, List.drop_drop]
    · rw [List.flatten_cons] at hk
      by_cases hj : j < ks.length
      · rw [List.getElem?_append_left hj] at hk
        rw [List.getElem?_append_left (by omega)] at hz
        exact w1 j k z hk hz
      · rw [List.getElem?_append_right (by omega)] at hk
        rw [List.getElem?_append_right (by omega), l1] at hz
        exact w2 _ k z hk hz

theorem Flat.struct {P : Program} {t : TypeId} {fs : Array Field} (kss : List (List IntKind)) (ht : P.underlying t = some (.struct fs)) (hl : kss.length = fs.size) (hC : P.cellsOf t = kss.flatten.length)
    (hf : ∀ (i : Nat) (f : Field) (ks : List IntKind), fs[i]? = some f → kss[i]? = some ks → Flat P f.type ks ∧ f.offset = ((kss.take i).map List.length).sum) : Flat P t kss.flatten := by
  refine ⟨hC, fun enc w base spare held fuel cs x hx => ?_⟩
  obtain ⟨xs, n, _, _, hcl, hxl, hg⟩ := DataW.trod_struct ht hx
  have := flat_pieces (cs := cs) kss 0 (fun i ks hi => by
    have hil : i < kss.length := (List.getElem?_eq_some_iff.1 hi).1
    have hfi : fs[i]? = some (fs[i]'(by omega)) := Array.getElem?_eq_getElem (by omega)
    obtain ⟨h1, h2⟩ := hf i _ ks hfi hi
    have h3 := hg i _ hfi
    rw [h2, h1.1] at h3
    have hxi : xs[i]? = some (xs[i]'(by omega)) := List.getElem?_eq_getElem (by omega)
    obtain ⟨zs, l, e, ww⟩ := h1.2 enc w base spare held n _ _ (h3.trans hxi)
    exact ⟨zs, l, by rw [Nat.zero_add]; exact e, ww⟩)
  obtain ⟨zs, l, e, ww⟩ := this
  refine ⟨zs, l, ?_, ww⟩
  rw [← e, List.drop_zero, List.take_of_length_le (by omega)]

theorem sum_replicate_len (ks : List IntKind) (n : Nat) : ((List.replicate n ks).map List.length).sum = n * ks.length := by
  induction n with
  | zero => simp
  | succ n ih => rw [List.replicate_succ, List.map_cons, List.sum_cons, ih, Nat.succ_mul]; omega

theorem Flat.array {P : Program} {t e : TypeId} {n : Nat} {ks : List IntKind} (ht : P.underlying t = some (.array n e)) (he : Flat P e ks) (hC : P.cellsOf t = (List.replicate n ks).flatten.length) : Flat P t (List.replicate n ks).flatten := by
  refine ⟨hC, fun enc w base spare held fuel cs x hx => ?_⟩
  obtain ⟨xs, m, _, _, hcl, hxl, hg⟩ := DataW.trod_array ht hx
  have := flat_pieces (cs := cs) (List.replicate n ks) 0 (fun i ks' hi => by
    rw [List.getElem?_replicate] at hi
    split at hi
    · rename_i hin
      injection hi with hi
      subst hi
      have h3 := hg i hin
      rw [he.1] at h3
      have hxi : xs[i]? = some (xs[i]'(by omega)) := List.getElem?_eq_getElem (by omega)
      obtain ⟨zs, l, e, ww⟩ := he.2 enc w base spare held m _ _ (h3.trans hxi)
      refine ⟨zs, l, ?_, ww⟩
      rw [Nat.zero_add, List.take_replicate, Nat.min_eq_left (by omega), sum_replicate_len]
      exact e
    · cases hi)
  obtain ⟨zs, l, e, ww⟩ := this
  refine ⟨zs, l, ?_, ww⟩
  rw [← e, List.drop_zero, List.take_of_length_le (by omega)]

/-- A slice that came in, of elements that are rows of integers: F i j is the j-th integer of the i-th element. -/
structure FRow (w : World) (ao : Option Addr) (len cap b off : Nat) (ks : List IntKind) (F : Nat → Nat → Int) : Prop where
  nil : ao = none → cap = 0
  lim : len ≤ 9223372036854775807
  cap : len ≤ cap ∧ cap ≤ 9223372036854775807
  adr : 0 < len → ao = some ⟨b, off, none⟩
  cell : ∀ i, i < len → ∀ (j : Nat) (k : IntKind), ks[j]? = some k → w.cell? ⟨b, off + (i * ks.length + j), none⟩ = some (.int k (F i j))
  wf : ∀ i, i < len → ∀ (j : Nat) (k : IntKind), ks[j]? = some k → (Lit.int k (F i j)).wf = true

theorem FRow.lt {w : World} {ao : Option Addr} {len cap b off : Nat} {ks : List IntKind} {F : Nat → Nat → Int} (h : FRow w ao len cap b off ks F) (hl : 0 < len) (hk : 0 < ks.length) : b < w.heap.size := by
  have := h.cell 0 hl 0 _ (List.getElem?_eq_getElem hk)
  exact World.block_lt_of_cell? w _ this

theorem FRow.keep {w w' : World} {ao : Option Addr} {len cap b off : Nat} {ks : List IntKind} {F : Nat → Nat → Int} (h : FRow w ao len cap b off ks F) (hb : ∀ p : Addr, p.block < w.heap.size → w'.cell? p = w.cell? p) : FRow w' ao len cap b off ks F :=
  ⟨h.nil, h.lim, h.cap, h.adr, fun i hi j k hk => by
    have := h.cell i hi j k hk
    exact (hb _ (World.block_lt_of_cell? w _ this)).trans this, h.wf⟩

/-- An address at which a cell lies has no spot. -/
theorem spot_none {w : World} {x : Addr} {v : Value} (h : w.cell? x = some v) : x = ⟨x.block, x.off, none⟩ := by
  obtain ⟨b, o, s⟩ := x
  cases s with
  | none => rfl
  | some s =>
    simp only [World.cell?] at h
    split at h <;> simp at h

theorem add_none (b o i : Nat) : (⟨b, o, none⟩ : Addr).add i = ⟨b, o + i, none⟩ := by
  unfold Addr.add; split <;> simp_all

theorem frow_of {H : Type} {enc : TypeId × Value → H} {P : Program} {w : World} {base : Nat} {held : Bool} {t e : TypeId} {ks : List IntKind} {fuel : Nat} {a : Option Addr} {len cap : Nat} {x : DataW H × List MemPlace} (ht : P.underlying t = some (.slice e)) (he : Flat P e ks) (hks : 0 < ks.length)
    (h : DataW.trod enc P w base (fun _ => true) held fuel t (Value.slice a len cap).cells.toList = some x) : ∃ b off F, FRow w a len cap b off ks F := by
  rcases open_slice ht h with ⟨hcs, _⟩ | ⟨ad, l, c, m, n, D, Pl, hcs, _, hl, hm, hmm, _, hi⟩
  · simp [Value.cells] at hcs
    obtain ⟨rfl, rfl, rfl⟩ := hcs
    exact ⟨0, 0, fun _ _ => 0, fun _ => rfl, by omega, by omega, by omega, by omega, by omega⟩
  · simp [Value.cells] at hcs
    obtain ⟨rfl, rfl, rfl⟩ := hcs
    simp only [if_true] at hmm
    subst hmm
    unfold maxLen at hm
    have key : ∀ i, i < m → ∃ zs : List Int, zs.length = ks.length ∧ (∀ (j : Nat) (k : IntKind) (z : Int), ks[j]? = some k → zs[j]? = some z → (Lit.int k z).wf = true) ∧ ∀ (j : Nat) (k : IntKind) (z : Int), ks[j]? = some k → zs[j]? = some z → w.cell? ((ad.add (i * ks.length)).add j) = some (.int k z) := by
      intro i hil
      obtain ⟨cs', hc, ht'⟩ := hi i hil
      rw [he.1] at hc
      obtain ⟨zs, l1, e1, w1⟩ := he.2 enc w base _ held n cs' _ ht'
      obtain ⟨_, hcl, hat⟩ := World.cells?_some hc
      refine ⟨zs, l1, w1, fun j k z hk hz => ?_⟩
      rw [hat j (List.getElem?_eq_some_iff.1 hk).1, e1, List.getElem?_zipWith, hk, hz]
    by_cases hm0 : 0 < len
    · obtain ⟨v0, hz1⟩ : ∃ v0, w.cell? ad = some v0 := by
        obtain ⟨zs, l1, _, h2⟩ := key 0 (by omega)
        have := h2 0 _ _ (List.getElem?_eq_getElem hks) (List.getElem?_eq_getElem (by omega))
        have e : (ad.add (0 * ks.length)).add 0 = ad := by simp [Addr.add]
        rw [e] at this
        exact ⟨_, this⟩
      obtain ⟨ab, aoff, sp⟩ := ad
      have hsp : sp = none := by have := spot_none hz1; injection this
      subst hsp
      have key2 : ∀ i, i < m → ∃ zs : List Int, zs.length = ks.length ∧ (∀ (j : Nat) (k : IntKind) (z : Int), ks[j]? = some k → zs[j]? = some z → (Lit.int k z).wf = true) ∧ ∀ (j : Nat) (k : IntKind) (z : Int), ks[j]? = some k → zs[j]? = some z → w.cell? ⟨ab, aoff + (i * ks.length + j), none⟩ = some (.int k z) := by
        intro i hil
        obtain ⟨zs, l1, w1, c1⟩ := key i hil
        refine ⟨zs, l1, w1, fun j k z hk hz => ?_⟩
        have := c1 j k z hk hz
        rw [add_none, add_none, Nat.add_assoc] at this
        exact this
      refine ⟨ab, aoff, fun i j => if hh : i < m then (Classical.choose (key2 i hh)).getD j 0 else 0, (fun h => by cases h), by omega, ⟨hl, by omega⟩, fun _ => rfl, fun i hil j k hk => ?_, fun i hil j k hk => ?_⟩
      · have him : i < m := by omega
        obtain ⟨l1, w1, c1⟩ := Classical.choose_spec (key2 i him)
        have hjl : j < (Classical.choose (key2 i him)).length := by rw [l1]; exact (List.getElem?_eq_some_iff.1 hk).1
        have := c1 j k _ hk (List.getElem?_eq_getElem hjl)
        rw [this]
        simp [him, hjl]
      · have him : i < m := by omega
        obtain ⟨l1, w1, c1⟩ := Classical.choose_spec (key2 i him)
        have hjl : j < (Classical.choose (key2 i him)).length := by rw [l1]; exact (List.getElem?_eq_some_iff.1 hk).1
        have := w1 j k _ hk (List.getElem?_eq_getElem hjl)
        simp only [him, dif_pos]
        simpa [hjl] using this
    · exact ⟨0, 0, fun _ _ => 0, (fun h => by cases h), by omega, ⟨hl, by omega⟩, by omega, by omega, by omega⟩

end Go.Proofs.YthhddjknjnjbhaaDoor
