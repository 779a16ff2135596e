/- Several texts in one: TpC, Flat, FlatV, TpS, TpT, TpU. -/
import Derived.Test.YtlooaipipmiijaaGreatZU39
import Derived.ProofKit
import Derived.OpenShut
import Derived.Deep.Slices
import Derived.Deep.Fields
import Derived.ChangeSame
import Derived.ChangeArms
namespace Go.Proofs.YtlooaipipmiijaaGreat
set_option linter.unusedVariables false
set_option linter.unusedSimpArgs false
open Go.RowKit
def fstP (all : List Rcd) (i k : Nat) : Prop := ∀ j, j < k → (idsL all).getD j 0 ∉ rchL all ((idsL all).getD i 0) MINT
instance (all : List Rcd) (i k : Nat) : Decidable (fstP all i k) := by unfold fstP; infer_instance
end Go.Proofs.YtlooaipipmiijaaGreat

namespace Go.Proofs.YtlooaipipmiijaaGreat
set_option linter.unusedVariables false
set_option linter.unusedSimpArgs false
open Go.ChangeShapes Go.WideShapes Go.RowKit Go.Deep
def Flat (P : Program) (t : TypeId) (ks : List IntKind) : Prop :=
  P.cellsOf t = ks.length ∧ ∀ {H : Type} (enc : TypeId × Value → H) (w : World) (base : Nat) (spare : Nat → Bool) (held : Bool) (fuel : Nat) (cs : List Value) (x : DataW H × List MemPlace),
    DataW.trod enc P w base spare held fuel t cs = some x → ∃ zs : List Int, zs.length = ks.length ∧ cs = List.zipWith Value.int ks zs ∧ ∀ (j : Nat) (k : IntKind) (z : Int), ks[j]? = some k → zs[j]? = some z → (Lit.int k z).wf = true
theorem Flat.int {P : Program} {t : TypeId} {k : IntKind} (h : P.underlying t = some (.int k)) (hc : P.cellsOf t = 1) : Flat P t [k] := by
  refine ⟨hc, fun enc w base spare held fuel cs x hx => ?_⟩
  obtain ⟨n, rfl, _, hw⟩ := DataW.trod_int h hx
  refine ⟨[n], rfl, rfl, fun j k' z hk hz => ?_⟩
  cases j with
  | zero => simp only [List.getElem?_cons_zero, Option.some.injEq] at hk hz; subst hk; subst hz; exact hw
  | succ j => simp at hk
theorem flat_join (ks1 ks2 : List IntKind) (zs1 zs2 : List Int) (h : zs1.length = ks1.length) : List.zipWith Value.int (ks1 ++ ks2) (zs1 ++ zs2) = List.zipWith Value.int ks1 zs1 ++ List.zipWith Value.int ks2 zs2 :=
  List.zipWith_append h.symm
theorem flat_pieces {cs : List Value} : ∀ (kss : List (List IntKind)) (o : Nat), (∀ (i : Nat) (ks : List IntKind), kss[i]? = some ks → ∃ zs : List Int, zs.length = ks.length ∧ (cs.drop (o + ((kss.take i).map List.length).sum)).take ks.length = List.zipWith Value.int ks zs ∧ ∀ (j : Nat) (k : IntKind) (z : Int), ks[j]? = some k → zs[j]? = some z → (Lit.int k z).wf = true) →
    ∃ zs : List Int, zs.length = kss.flatten.length ∧ (cs.drop o).take kss.flatten.length = List.zipWith Value.int kss.flatten zs ∧ ∀ (j : Nat) (k : IntKind) (z : Int), kss.flatten[j]? = some k → zs[j]? = some z → (Lit.int k z).wf = true
  | [], o, _ => ⟨[], rfl, by simp, fun j k z hk => by simp at hk⟩
  | ks :: kss, o, h => by
    obtain ⟨zs1, l1, e1, w1⟩ := h 0 ks rfl
    simp only [List.take_zero, List.map_nil, List.sum_nil, Nat.add_zero] at e1
    obtain ⟨zs2, l2, e2, w2⟩ := flat_pieces kss (o + ks.length) (fun i ks' hi => by
      obtain ⟨zs, l, e, w⟩ := h (i + 1) ks' (by simpa using hi)
      refine ⟨zs, l, ?_, w⟩
      rw [← e]
      simp only [List.take_succ_cons, List.map_cons, List.sum_cons]
      rw [Nat.add_assoc])
    refine ⟨zs1 ++ zs2, by simp [l1, l2], ?_, fun j k z hk hz => ?_⟩
    · rw [List.flatten_cons, flat_join _ _ _ _ l1, ← e1, ← e2, List.length_append, List.take_add, List.drop_drop]
    · rw [List.flatten_cons] at hk
      by_cases hj : j < ks.length
      · rw [List.getElem?_append_left hj] at hk
        rw [List.getElem?_append_left (by omega)] at hz
        exact w1 j k z hk hz
      · rw [List.getElem?_append_right (by omega)] at hk
        rw [List.getElem?_append_right (by omega), l1] at hz
        exact w2 _ k z hk hz
theorem Flat.struct {P : Program} {t : TypeId} {fs : Array Field} (kss : List (List IntKind)) (ht : P.underlying t = some (.struct fs)) (hl : kss.length = fs.size) (hC : P.cellsOf t = kss.flatten.length)
    (hf : ∀ (i : Nat) (f : Field) (ks : List IntKind), fs[i]? = some f → kss[i]? = some ks → Flat P f.type ks ∧ f.offset = ((kss.take i).map List.length).sum) : Flat P t kss.flatten := by
  refine ⟨hC, fun enc w base spare held fuel cs x hx => ?_⟩
  obtain ⟨xs, n, _, _, hcl, hxl, hg⟩ := DataW.trod_struct ht hx
  have := flat_pieces (cs := cs) kss 0 (fun i ks hi => by
    have hil : i < kss.length := (List.getElem?_eq_some_iff.1 hi).1
    have hfi : fs[i]? = some (fs[i]'(by omega)) := Array.getElem?_eq_getElem (by omega)
    obtain ⟨h1, h2⟩ := hf i _ ks hfi hi
    have h3 := hg i _ hfi
    rw [h2, h1.1] at h3
    have hxi : xs[i]? = some (xs[i]'(by omega)) := List.getElem?_eq_getElem (by omega)
    obtain ⟨zs, l, e, ww⟩ := h1.2 enc w base spare held n _ _ (h3.trans hxi)
    exact ⟨zs, l, by rw [Nat.zero_add]; exact e, ww⟩)
  obtain ⟨zs, l, e, ww⟩ := this
  refine ⟨zs, l, ?_, ww⟩
  rw [← e, List.drop_zero, List.take_of_length_le (by omega)]
theorem spot_none {w : World} {x : Addr} {v : Value} (h : w.cell? x = some v) : x = ⟨x.block, x.off, none⟩ := by
  obtain ⟨b, o, s⟩ := x
  cases s with
  | none => rfl
  | some s =>
    simp only [World.cell?] at h
    split at h <;> simp at h
theorem add_none (b o i : Nat) : (⟨b, o, none⟩ : Addr).add i = ⟨b, o + i, none⟩ := by
  unfold Addr.add; split <;> simp_all
end Go.Proofs.YtlooaipipmiijaaGreat

namespace Go.Proofs.YtlooaipipmiijaaGreat
set_option linter.unusedVariables false
set_option linter.unusedSimpArgs false
open Go.ChangeShapes Go.WideShapes Go.RowKit Go.Deep
theorem flat_agg {H : Type} {enc : TypeId × Value → H} {P : Program} {w : World} {base : Nat} {spare : Nat → Bool} {held : Bool} {t : TypeId} {ks : List IntKind} {cs : Array Value} {d : DataW H} {p : List MemPlace}
    (hF : Flat P t ks) (h : DataW.Trod enc P w base spare held t (.agg cs) d p) : ∃ zs : List Int, zs.length = ks.length ∧ (Value.agg cs) = .agg (List.zipWith Value.int ks zs).toArray ∧ ∀ (j : Nat) (k : IntKind) (z : Int), ks[j]? = some k → zs[j]? = some z → (Lit.int k z).wf = true := by
  obtain ⟨fuel, hf⟩ := h
  obtain ⟨zs, h1, h2, h3⟩ := hF.2 _ _ _ _ _ _ _ _ hf
  refine ⟨zs, h1, ?_, h3⟩
  rw [← h2]
  simp [Value.cells]
theorem flat_struct {H : Type} {enc : TypeId × Value → H} {P : Program} {w : World} {base : Nat} {spare : Nat → Bool} {held : Bool} {r : Reach} {b0 : Nat} {t : TypeId} {fs : Array Field} {ks : List IntKind} {v : Value} {d : DataW H} {p : List MemPlace}
    (ht : P.underlying t = some (.struct fs)) (hF : Flat P t ks) (hv : Value.okWide P w r b0 t v) (h : DataW.Trod enc P w base spare held t v d p) : ∃ zs : List Int, zs.length = ks.length ∧ v = .agg (List.zipWith Value.int ks zs).toArray ∧ ∀ (j : Nat) (k : IntKind) (z : Int), ks[j]? = some k → zs[j]? = some z → (Lit.int k z).wf = true := by
  obtain ⟨cs, rfl, _⟩ := okWide_struct ht hv
  exact flat_agg hF h
end Go.Proofs.YtlooaipipmiijaaGreat

namespace Go.Proofs.YtlooaipipmiijaaGreat
set_option linter.unusedVariables false
set_option linter.unusedSimpArgs false
open Go.ChangeShapes Go.WideShapes Go.RowKit Go.Deep
structure Stp where
  ad : Bool
  r : Rcd
def stpV (s : Stp) : List Value := .bool s.ad :: encC s.r
def StpO (s : Stp) : Prop := s.r.u < 18446744073709551616 ∧ s.r.v < 18446744073709551616 ∧ (-9223372036854775808 ≤ s.r.wt ∧ s.r.wt ≤ 9223372036854775807) ∧ -9223372036854775808 ≤ s.r.t ∧ s.r.t ≤ 9223372036854775807
theorem wf_u64N {z : Int} (h : (Lit.int .u64 z).wf = true) : ∃ n : Nat, z = (n : Int) ∧ n < 18446744073709551616 := by
  simp [Lit.wf, IntKind.min, IntKind.max, IntKind.signed, IntKind.bits] at h
  exact ⟨z.toNat, by omega, by omega⟩
theorem wf_i64N {z : Int} (h : (Lit.int .i64 z).wf = true) : -9223372036854775808 ≤ z ∧ z ≤ 9223372036854775807 := by
  simp [Lit.wf, IntKind.min, IntKind.max, IntKind.signed, IntKind.bits] at h
  omega
theorem four {k1 k2 k3 k4 : IntKind} {v : Value} (h : ∃ zs : List Int, zs.length = [k1, k2, k3, k4].length ∧ v = .agg (List.zipWith Value.int [k1, k2, k3, k4] zs).toArray ∧ ∀ (j : Nat) (k : IntKind) (z : Int), [k1, k2, k3, k4][j]? = some k → zs[j]? = some z → (Lit.int k z).wf = true) :
    ∃ x y z u : Int, v = .agg #[.int k1 x, .int k2 y, .int k3 z, .int k4 u] ∧ (Lit.int k1 x).wf = true ∧ (Lit.int k2 y).wf = true ∧ (Lit.int k3 z).wf = true ∧ (Lit.int k4 u).wf = true := by
  obtain ⟨zs, hl, hv, hw⟩ := h
  match zs, hl with
  | [x, y, z, u], _ => exact ⟨x, y, z, u, hv, hw 0 _ _ rfl rfl, hw 1 _ _ rfl rfl, hw 2 _ _ rfl rfl, hw 3 _ _ rfl rfl⟩
theorem list5 {α : Type} {l : List α} (h : l.length = 5) : ∃ a b c d e, l = [a, b, c, d, e] := by
  match l, h with
  | [a, b, c, d, e], _ => exact ⟨a, b, c, d, e, rfl⟩
theorem list4 {α : Type} {l : List α} (h : l.length = 4) : ∃ a b c d, l = [a, b, c, d] := by
  match l, h with
  | [a, b, c, d], _ => exact ⟨a, b, c, d, rfl⟩
theorem step_cells {P : Program} {te : TypeId} {fs : Array Field} {f0 f1 : Field} (he : P.underlying te = some (.struct fs)) (h0 : fs[0]? = some f0) (h1 : fs[1]? = some f1) (hb : P.underlying f0.type = some .bool) (c0 : P.cellsOf f0.type = 1) (o0 : f0.offset = 0) (hF : Flat P f1.type [.u64, .u64, .i64, .i64]) (o1 : f1.offset = 1) (hC : P.cellsOf te = 5)
    {H : Type} (enc : TypeId × Value → H) (w : World) (base : Nat) (spare : Nat → Bool) (held : Bool) (fuel : Nat) (cs : List Value) (x : DataW H × List MemPlace) (hx : DataW.trod enc P w base spare held fuel te cs = some x) : ∃ s : Stp, cs = stpV s ∧ StpO s := by
  obtain ⟨xs, n, _, _, hcl, hxl, hg⟩ := DataW.trod_struct he hx
  have g0 := hg 0 f0 h0
  have g1 := hg 1 f1 h1
  have l0 := (Array.getElem?_eq_some_iff.1 h1).1
  have x0 : xs[0]? = some (xs[0]'(by omega)) := List.getElem?_eq_getElem (by omega)
  have x1 : xs[1]? = some (xs[1]'(by omega)) := List.getElem?_eq_getElem (by omega)
  rw [x0, o0, c0] at g0
  rw [x1, o1, hF.1] at g1
  obtain ⟨b, e0, _⟩ := DataW.trod_bool hb g0
  obtain ⟨zs, hl, e1, hw⟩ := hF.2 enc w base spare held n _ _ g1
  rw [hC] at hcl
  obtain ⟨a, c, d, e, f, rfl⟩ := list5 hcl
  obtain ⟨z1, z2, z3, z4, rfl⟩ := list4 hl
  obtain ⟨u, rfl, hu⟩ := wf_u64N (hw 0 _ _ rfl rfl)
  obtain ⟨v, rfl, hv⟩ := wf_u64N (hw 1 _ _ rfl rfl)
  have h3 := wf_i64N (hw 2 _ _ rfl rfl)
  have h4 := wf_i64N (hw 3 _ _ rfl rfl)
  refine ⟨⟨b, ⟨u, v, z3, z4⟩⟩, ?_, hu, hv, h3, h4⟩
  simp only [List.drop_zero, List.take_succ_cons, List.take_zero, List.cons.injEq, and_true] at e0
  simp only [List.drop_succ_cons, List.drop_zero, List.length_cons, List.length_nil, List.take_succ_cons, List.take_zero, List.zipWith_cons_cons, List.zipWith_nil_left, List.cons.injEq, and_true] at e1
  obtain ⟨rfl, rfl, rfl, rfl⟩ := e1
  rw [e0]
  rfl
structure SRow (w : World) (ao : Option Addr) (len cap b off : Nat) (F : Nat → Stp) : Prop where
  nil : ao = none → cap = 0
  lim : len ≤ 9223372036854775807
  cap : len ≤ cap ∧ cap ≤ 9223372036854775807
  adr : 0 < len → ao = some ⟨b, off, none⟩
  cell : ∀ i, i < len → ∀ (j : Nat) (v : Value), (stpV (F i))[j]? = some v → w.cell? ⟨b, off + (i * 5 + j), none⟩ = some v
  wf : ∀ i, i < len → StpO (F i)
theorem SRow.lt {w : World} {ao : Option Addr} {len cap b off : Nat} {F : Nat → Stp} (h : SRow w ao len cap b off F) (hl : 0 < len) : b < w.heap.size := World.block_lt_of_cell? w _ (h.cell 0 hl 0 _ rfl)
theorem SRow.keep {w w' : World} {ao : Option Addr} {len cap b off : Nat} {F : Nat → Stp} (h : SRow w ao len cap b off F) (hb : Below w.heap.size w w') : SRow w' ao len cap b off F :=
  ⟨h.nil, h.lim, h.cap, h.adr, fun i hi j v hv => (hb.cell (p := ⟨b, off + (i * 5 + j), none⟩) (h.lt (by omega))).trans (h.cell i hi j v hv), h.wf⟩
theorem srow_of {H : Type} {enc : TypeId × Value → H} {P : Program} {w : World} {base : Nat} {held : Bool} {t e : TypeId} {fuel : Nat} {a : Option Addr} {len cap : Nat} {x : DataW H × List MemPlace} (ht : P.underlying t = some (.slice e)) (hC : P.cellsOf e = 5)
    (he : ∀ (n : Nat) (cs : List Value) (y : DataW H × List MemPlace), DataW.trod enc P w base (fun _ => true) held n e cs = some y → ∃ s : Stp, cs = stpV s ∧ StpO s)
    (h : DataW.trod enc P w base (fun _ => true) held fuel t (Value.slice a len cap).cells.toList = some x) : ∃ b off F, SRow w a len cap b off F := by
  rcases open_slice ht h with ⟨hcs, _⟩ | ⟨ad, l, c, m, n, D, Pl, hcs, _, hl, hm, hmm, _, hi⟩
  · simp [Value.cells] at hcs
    obtain ⟨rfl, rfl, rfl⟩ := hcs
    exact ⟨0, 0, fun _ => ⟨false, ⟨0, 0, 0, 0⟩⟩, fun _ => rfl, by omega, by omega, by omega, fun i hi => by omega, fun i hi => by omega⟩
  · simp [Value.cells] at hcs
    obtain ⟨rfl, rfl, rfl⟩ := hcs
    simp only [if_true] at hmm
    subst hmm
    unfold maxLen at hm
    have key : ∀ i, i < m → ∃ s : Stp, StpO s ∧ ∀ (j : Nat) (v : Value), (stpV s)[j]? = some v → w.cell? ((ad.add (i * 5)).add j) = some v := by
      intro i hil
      obtain ⟨cs', hc, ht'⟩ := hi i hil
      rw [hC] at hc
      obtain ⟨s, e1, w1⟩ := he n cs' _ ht'
      obtain ⟨_, hcl, hat⟩ := World.cells?_some hc
      refine ⟨s, w1, fun j v hv => ?_⟩
      have hj : j < 5 := (List.getElem?_eq_some_iff.1 hv).1
      rw [hat j hj, e1, hv]
    by_cases hm0 : 0 < len
    · obtain ⟨v0, hz1⟩ : ∃ v0, w.cell? ad = some v0 := by
        obtain ⟨s, _, h2⟩ := key 0 (by omega)
        have := h2 0 _ rfl
        have e : (ad.add (0 * 5)).add 0 = ad := by simp [Addr.add]
        rw [e] at this
        exact ⟨_, this⟩
      obtain ⟨ab, aoff, sp⟩ := ad
      have hsp : sp = none := by have := spot_none hz1; injection this
      subst hsp
      have key2 : ∀ i, i < m → ∃ s : Stp, StpO s ∧ ∀ (j : Nat) (v : Value), (stpV s)[j]? = some v → w.cell? ⟨ab, aoff + (i * 5 + j), none⟩ = some v := by
        intro i hil
        obtain ⟨s, w1, c1⟩ := key i hil
        refine ⟨s, w1, fun j v hv => ?_⟩
        have := c1 j v hv
        rw [add_none, add_none, Nat.add_assoc] at this
        exact this
      refine ⟨ab, aoff, fun i => if hh : i < m then Classical.choose (key2 i hh) else ⟨false, ⟨0, 0, 0, 0⟩⟩, (fun h => by cases h), by omega, ⟨hl, by omega⟩, fun _ => rfl, fun i hil j v hv => ?_, fun i hil => ?_⟩
      · have him : i < m := by omega
        obtain ⟨w1, c1⟩ := Classical.choose_spec (key2 i him)
        simp only [him, dif_pos] at hv
        exact c1 j v hv
      · have him : i < m := by omega
        simp only [him, dif_pos]
        exact (Classical.choose_spec (key2 i him)).1
    · exact ⟨0, 0, fun _ => ⟨false, ⟨0, 0, 0, 0⟩⟩, (fun h => by cases h), by omega, ⟨hl, by omega⟩, by omega, fun i hi => by omega, fun i hi => by omega⟩
end Go.Proofs.YtlooaipipmiijaaGreat

namespace Go.Proofs.YtlooaipipmiijaaGreat
set_option linter.unusedVariables false
set_option linter.unusedSimpArgs false
open Go.RowKit
structure LpI (w1 : World) (b : Nat) (cW cD : Int) (E V k : Nat) (G : WnG) (all : List Rcd) (W : World) : Prop where
  fr : WnFr w1 b G all W
  cfg : G.W = cW ∧ G.E = E ∧ G.V = V ∧ G.D = cD
  add : G.add ≤ k
section
variable {w1 W W' : World} {b E V k : Nat} {cW cD : Int} {G : WnG} {all : List Rcd}
theorem LpI.below (h : LpI w1 b cW cD E V k G all W) (hb : Below W.heap.size W W') : LpI w1 b cW cD E V k G all W' := ⟨h.fr.below hb, h.cfg, h.add⟩
theorem LpI.quiet (h : LpI w1 b cW cD E V k G all W) (s : WnV b G W W') : ∃ G', WnS b G W G' W' ∧ LpI w1 b cW cD E V k G' all W' ∧ G'.now = G.now := by
  obtain ⟨col, s, hf⟩ := h.fr.quiet s
  exact ⟨_, s, ⟨hf, h.cfg, h.add⟩, rfl⟩
theorem LpI.added (h : LpI w1 b cW cD E V k G all W) {r : Rcd} {e : Ending} (hp : WnAd W b G all r e W') : ∃ G' all', WnS b G W G' W' ∧ LpI w1 b cW cD E V (k + 1) G' all' W' ∧ (addE G all r = 0 → all' = stay cW r.t all ++ [r] ∧ G'.now = r.t) ∧ (addE G all r ≠ 0 → all' = all ∧ G'.now = G.now) := by
  obtain ⟨G', hs, hc, ha, h1, h2⟩ := hp.out
  obtain ⟨c1, c2, c3, c4⟩ := h.cfg
  have hcf : G'.W = cW ∧ G'.E = E ∧ G'.V = V ∧ G'.D = cD := ⟨hc.W.trans c1, hc.E.trans c2, hc.V.trans c3, hc.D.trans c4⟩
  have hadd : G'.add ≤ k + 1 := by have := h.add; omega
  by_cases c : addE G all r = 0
  · obtain ⟨k1, k2⟩ := h1 c
    rw [c1] at k1
    exact ⟨G', _, hs, ⟨h.fr.step hs k1, hcf, hadd⟩, fun _ => ⟨rfl, k2⟩, fun k => absurd c k⟩
  · obtain ⟨k1, k2⟩ := h2 c
    exact ⟨G', all, hs, ⟨h.fr.step hs k1, hcf, hadd⟩, fun k => absurd k c, fun _ => ⟨rfl, k2⟩⟩
theorem LpI.ticked (h : LpI w1 b cW cD E V k G all W) {t : Int} {e : Ending} (hp : WnTk W b G all t e W') : ∃ G' all', WnS b G W G' W' ∧ LpI w1 b cW cD E V k G' all' W' ∧ (clkE cW G.now t = 0 → all' = stay cW t all ∧ G'.now = t) ∧ (clkE cW G.now t ≠ 0 → all' = all ∧ G'.now = G.now) := by
  obtain ⟨G', hs, hc, ha, h1, h2⟩ := hp.out
  obtain ⟨c1, c2, c3, c4⟩ := h.cfg
  have hcf : G'.W = cW ∧ G'.E = E ∧ G'.V = V ∧ G'.D = cD := ⟨hc.W.trans c1, hc.E.trans c2, hc.V.trans c3, hc.D.trans c4⟩
  rw [c1] at h1 h2
  by_cases c : clkE cW G.now t = 0
  · obtain ⟨k1, k2⟩ := h1 c
    exact ⟨G', _, hs, ⟨h.fr.step hs k1, hcf, by rw [ha]; exact h.add⟩, fun _ => ⟨rfl, k2⟩, fun k => absurd c k⟩
  · obtain ⟨k1, k2⟩ := h2 c
    exact ⟨G', all, hs, ⟨h.fr.step hs k1, hcf, by rw [ha]; exact h.add⟩, fun k => absurd k c, fun _ => ⟨rfl, k2⟩⟩
theorem LpI.next (h : LpI w1 b cW cD E V k G all W) : LpI w1 b cW cD E V (k + 1) G all W := ⟨h.fr, h.cfg, Nat.le_succ_of_le h.add⟩
end
theorem stay_rch {W s : Int} {all : List Rcd} {x y : Nat} (hm : ∀ r, r ∈ all → MINT < r.t) : Rch (RL (stay W (s + W - 1) all) MINT) x y ↔ Rch (RL all s) x y := by
  constructor
  · refine fun h => h.mono fun a b ⟨r, h1, h2, h3⟩ => ?_
    unfold stay at h1
    rw [List.mem_filter, decide_eq_true_eq] at h1
    exact ⟨r, h1.1, by have := h1.2; omega, h3⟩
  · refine fun h => h.mono fun a b ⟨r, h1, h2, h3⟩ => ⟨r, ?_, Int.le_of_lt (hm r h1), h3⟩
    unfold stay
    rw [List.mem_filter, decide_eq_true_eq]
    exact ⟨h1, by omega⟩
theorem stay_stay {W s t : Int} {all : List Rcd} (h : s ≤ t) : stay W t (stay W s all) = stay W t all := by
  unfold stay
  rw [List.filter_filter]
  refine List.filter_congr fun r _ => ?_
  by_cases c : t < r.t + W
  · rw [decide_eq_true c, decide_eq_true (show s < r.t + W by omega)]; rfl
  · rw [decide_eq_false c]; rfl
theorem until_before {G : WnG} {all : List Rcd} (hl : WnL G all) {u v : Nat} (h : unB all u v = true) : conB (stay G.W (unT G.W all u v - 1) all) u v = true ∧ conE (stay G.W (unT G.W all u v - 1) all) u v = 0 := by
  obtain ⟨h1, h2, h3, h4, h5, h6, h7⟩ := un_is hl h
  have hr := (stay_rch (W := G.W) (s := bestL all u v) fun r hr => (hl.minT r hr).1).2 h6
  rw [h3]
  have hk : u ∈ idsL (stay G.W (bestL all u v + G.W - 1) all) ∧ v ∈ idsL (stay G.W (bestL all u v + G.W - 1) all) := by
    rcases rch_ids hr with e | e
    · exact absurd e h1
    · exact e
  exact ⟨decide_eq_true ⟨hk, mem_rchL.2 hr⟩, if_pos hk⟩
theorem until_after {G : WnG} {all : List Rcd} (hl : WnL G all) {u v : Nat} (h : unB all u v = true) : conB (stay G.W (unT G.W all u v) all) u v = false := by
  obtain ⟨h1, h2, h3, h4, h5, h6, h7⟩ := un_is hl h
  rw [h3]
  refine decide_eq_false fun k => h7 ?_
  have e : bestL all u v + G.W = bestL all u v + 1 + G.W - 1 := by omega
  have k2 := mem_rchL.1 k.2
  rw [e] at k2
  exact (stay_rch (W := G.W) (s := bestL all u v + 1) fun r hr => (hl.minT r hr).1).1 k2
end Go.Proofs.YtlooaipipmiijaaGreat

namespace Go.Proofs.YtlooaipipmiijaaGreat
set_option linter.unusedVariables false
set_option linter.unusedSimpArgs false
open Go.RowKit
def TopR (w : World) (e : Ending) (w' : World) : Prop := e = .returned (.bool true) ∧ Below w.heap.size w w'
theorem TopR.mk {w w1 w' : World} (hb : Below w.heap.size w w1) (k : Below w1.heap.size w1 w') : TopR w (.returned (.bool true)) w' := ⟨rfl, bel_next hb k⟩
set_option maxHeartbeats 2000000 in
set_option maxRecDepth 100000 in
theorem until_no (w : World) (cW cE cV cD : Int) (hno : ¬ CfgO cW cE cV cD) (ao : Option Addr) (len cap : Nat) (u v : Int) :
    Calls Tryz.prog 3 #[.agg #[.int .i64 cW, .int .i64 cE, .int .i64 cV, .int .i64 cD], .slice ao len cap, .int .u64 u, .int .u64 v] w (TopR w) := by
  have HBW : Hid (∀ W, Below (w.alloc (.cells #[.int .i64 cW, .int .i64 cE, .int .i64 cV, .int .i64 cD] 23)).heap.size (w.alloc (.cells #[.int .i64 cW, .int .i64 cE, .int .i64 cV, .int .i64 cD] 23)) W → TopR w (.returned (.bool true)) W) := fun W k => TopR.mk (bel_alloc w _) k
  have HX := Lib.hid (Blk.new w 23 [.int .i64 cW, .int .i64 cE, .int .i64 cV, .int .i64 cD])
  simp only [List.toArray] at HX
  have HN := Lib.hid (fun W => wn_new_bad W cW cE cV cD hno)
  clear hno
  go_enter Tryz.func3, Tryz.ntmps3
  go_upto_region 1 with fail
  generalize w.alloc (.cells #[.int .i64 cW, .int .i64 cE, .int .i64 cV, .int .i64 cD] 23) = w1 at *
  generalize w.heap.size = z at *
  have c0 := HX.out.cell (i := 0) rfl
  have c1 := HX.out.cell (i := 1) rfl
  have c2 := HX.out.cell (i := 2) rfl
  have c3 := HX.out.cell (i := 3) rfl
  have HN1 := Lib.hid (HN.out w1)
  have HWK := Lib.hid tp_works
  go_wp2_with (first | (go_at_call 5; with_reducible refine HN1.out.mono ?_; rintro e w2 ⟨rfl, hb⟩; have HB2 := Lib.hid hb; clear hb) | (go_at_call 7; refine (HWK.out _).mono ?_; rintro e w3 ⟨rfl, hb⟩; have HB3 := Lib.hid (HBW.out _ (bel_next HB2.out hb)); clear hb))
  go_ret
  exact HB3.out
set_option maxHeartbeats 4000000 in
set_option maxRecDepth 100000 in
theorem until_yes (w : World) (cW cD : Int) (E V : Nat) (hcf : CfgO cW E V cD) (hmx : cW ≤ 9223372036854775807) (ao : Option Addr) (len cap bs off : Nat) (F : Nat → Stp) (hs : SRow w ao len cap bs off F) (u v : Nat) :
    Calls Tryz.prog 3 #[.agg #[.int .i64 cW, .int .i64 (E : Int), .int .i64 (V : Int), .int .i64 cD], .slice ao len cap, .int .u64 (u : Int), .int .u64 (v : Int)] w (TopR w) := by
  have HBW : Hid (∀ W, Below (w.alloc (.cells #[.int .i64 cW, .int .i64 (E : Int), .int .i64 (V : Int), .int .i64 cD] 23)).heap.size (w.alloc (.cells #[.int .i64 cW, .int .i64 (E : Int), .int .i64 (V : Int), .int .i64 cD] 23)) W → TopR w (.returned (.bool true)) W) := fun W k => TopR.mk (bel_alloc w _) k
  have HX := Lib.hid (Blk.new w 23 [.int .i64 cW, .int .i64 (E : Int), .int .i64 (V : Int), .int .i64 cD])
  have HS1 := Lib.hid (hs.keep (bel_alloc w (.cells #[.int .i64 cW, .int .i64 (E : Int), .int .i64 (V : Int), .int .i64 cD] 23)))
  simp only [List.toArray] at HX
  have HN := Lib.hid (fun W => wn_new W cW cD E V hcf hmx)
  have HCW : Hid (1 ≤ cW ∧ cW ≤ 9223372036854775807) := ⟨hcf.1, hmx⟩
  clear hcf hs hmx
  go_enter Tryz.func3, Tryz.ntmps3
  go_upto_region 1 with fail
  generalize w.alloc (.cells #[.int .i64 cW, .int .i64 (E : Int), .int .i64 (V : Int), .int .i64 cD] 23) = w1 at *
  generalize w.heap.size = z at *
  have c0 := HX.out.cell (i := 0) rfl
  have c1 := HX.out.cell (i := 1) rfl
  have c2 := HX.out.cell (i := 2) rfl
  have c3 := HX.out.cell (i := 3) rfl
  have HN1 := Lib.hid (HN.out w1)
  have HWK := Lib.hid tp_works
  go_upto_region 2 with (go_at_call 5; refine HN1.out.mono ?_; rintro e w2 hpo; obtain ⟨b, G, he, h2, h3, h4, h5⟩ := hpo.ex; subst he; have HL2 : Hid (LpI w1 b cW cD E V 0 G [] w2) := ⟨⟨h2, h3, h5, hpo.bel⟩, ⟨h4.1, h4.2.1, h4.2.2.1, h4.2.2.2.1⟩, Nat.le_of_eq h4.2.2.2.2.2⟩; clear hpo h2 h3 h4 h5)
  clear c0 c1 c2 c3 HN1 HN
  have HX2 := Lib.hid (HX.out.below HL2.out.fr.bel HX.out.lt)
  have c0 := HX2.out.cell (i := 0) rfl
  have c1 := HX2.out.cell (i := 1) rfl
  have c2 := HX2.out.cell (i := 2) rfl
  have c3 := HX2.out.cell (i := 3) rfl
  have HSM := tp_small w2 cW E V cD ao len cap
  by_cases hsm : ((V : Int) ≤ 12 ∧ (E : Int) ≤ 30 ∧ len ≤ 60)
  · rw [decide_eq_true hsm] at HSM
    replace HSM := Lib.hid HSM
    have hlen : len ≤ 60 := hsm.2.2
    clear hsm
    go_wp2_with (go_at_call 6; with_reducible refine HSM.out.mono ?_; rintro e w3 ⟨rfl, hb⟩; have HL3 := Lib.hid (HL2.out.below hb); clear hb)
    clear c0 c1 c2 c3 HL2 HX2 HSM
    go_loopw [11] (fun s11 wr => ∃ (k : Nat) (G : WnG) (all : List Rcd), k ≤ len ∧ s11 = .int .i64 (k : Int) ∧ LpI w1 b cW cD E V k G all wr) (fun s11 _ => len - (intOf s11).toNat)
    case atStart => exact ⟨0, _, _, Nat.zero_le _, rfl, HL3.out⟩
    case round =>
      obtain ⟨k, Gk, all, hk, rfl, hlp⟩ := hrel
      clear HL3
      have HLP := Lib.hid hlp
      clear hlp
      by_cases hlt : k < len
      · have t1 : decide ((k : Int) < (len : Int)) = true := decide_eq_true (by omega)
        have t2 : decide (k < len) = true := decide_eq_true hlt
        have hwk : IntKind.i64.wrap ((k : Int) + 1) = (k : Int) + 1 := IntWalk.i64_in _ (by omega)
        have ti2 : (k : Int) < (len : Int) := by omega
        have hadr := HS1.out.adr (by omega)
        subst hadr
        have HSR := Lib.hid (HS1.out.keep HLP.out.fr.bel)
        obtain ⟨r, HR⟩ : ∃ r, Hid ((F k).r = r) := ⟨_, rfl⟩
        have HRO := Lib.hid (HSR.out.wf k hlt)
        have HKL := Lib.hid hlt
        have HRG : Hid (wr.rangeAt bs (off + k * 5 + 1) (encC r)) := by
          intro j y hy
          have := HSR.out.cell k hlt (j + 1) y (by rw [← HR.out] at hy; exact hy)
          rw [← this]
          congr 2
          omega
        have c0 : wr.cell? ⟨bs, off + k * 5, none⟩ = some (.bool (F k).ad) := HSR.out.cell k hlt 0 _ rfl
        clear hlt
        have hro := HRO.out
        unfold StpO at hro
        rw [HR.out] at hro
        have HR5 := Lib.hid hro
        clear hro
        obtain ⟨ru, rv, rwt, rt⟩ := r
        have HRG2 : Hid (wr.rangeAt bs (off + k * 5 + 1) [.int .u64 (ru : Int), .int .u64 (rv : Int), .int .i64 rwt, .int .i64 rt]) := HRG.out
        have c3 : wr.cell? ⟨bs, off + k * 5 + 1 + 3, none⟩ = some (.int .i64 rt) := HRG2.out 3 _ rfl
        clear HRG
        by_cases had : (F k).ad = true
        · rw [had] at c0
          have HAD := Lib.hid (wn_add wr b Gk all HLP.out.fr.mem HLP.out.fr.wl ru rv rwt rt HR5.out.1 HR5.out.2.1 HR5.out.2.2.2 (by have := HLP.out.add; omega))
          go_wp2_with (first | (go_at_call 8; refine HAD.out.mono ?_; rintro e w4 hpo; obtain ⟨G4, all4, _, hl4, _, _⟩ := HLP.out.added hpo; have hv := hpo.val; subst hv; have HL4 := Lib.hid hl4; clear hl4 hpo) | (with_reducible refine wpList_load_mid rfl 33 _ rfl bs (off + k * 5 + 1) rfl [.int .u64 (ru : Int), .int .u64 (rv : Int), .int .i64 rwt, .int .i64 rt] _ HRG2.out Tryz.underlying33 rfl (by kernel_rfl) ?_))
          go_roundw
          case rel => exact ⟨k + 1, G4, all4, HKL.out, by go_num, HL4.out⟩
          case measure => have := HKL.out; simp [intOf]; omega
        · have had' : (F k).ad = false := by cases h : (F k).ad; rfl; exact absurd h had
          rw [had'] at c0
          have HTK := Lib.hid (wn_tick wr b Gk all HLP.out.fr.mem HLP.out.fr.wl rt HR5.out.2.2.2)
          go_wp2_with (go_at_call 9; refine HTK.out.mono ?_; rintro e w4 hpo; obtain ⟨G4, all4, _, hl4, _, _⟩ := HLP.out.ticked hpo; have hv := hpo.val; subst hv; have HL4 := Lib.hid hl4.next; clear hl4 hpo)
          go_roundw
          case rel => exact ⟨k + 1, G4, all4, HKL.out, by go_num, HL4.out⟩
          case measure => have := HKL.out; simp [intOf]; omega
      · have t1 : decide ((k : Int) < (len : Int)) = false := decide_eq_false (by omega)
        have t2 : decide (k < len) = false := decide_eq_false hlt
        clear hlt
        have HUN := rd_until HLP.out.fr.mem HLP.out.fr.wl u v
        rw [HLP.out.cfg.1] at HUN
        by_cases hub : unB all u v = true
        · have HUI := Lib.hid (un_is HLP.out.fr.wl hub)
          have HBF := Lib.hid (until_before HLP.out.fr.wl hub)
          have HAF := Lib.hid (until_after HLP.out.fr.wl hub)
          have hce : conE all u v = 0 := if_pos HUI.out.2.1
          have HUT : Hid (Gk.now < unT cW all u v ∧ unT cW all u v ≤ 9223372036854775807) := by
            obtain ⟨_, _, e3, e4, e5, _, _⟩ := HUI.out
            rw [HLP.out.cfg.1] at e3 e4 e5
            show _ ∧ _
            rw [e3]; exact ⟨e4, e5⟩
          rw [hub, hce] at HUN
          rw [HLP.out.cfg.1] at HBF HAF
          replace HUN := Lib.hid HUN
          clear hub hce HUI
          obtain ⟨ut, HU⟩ : ∃ ut, Hid (unT cW all u v = ut) := ⟨_, rfl⟩
          rw [HU.out] at HUN HBF HAF HUT
          go_upto_region 13 with (go_at_call 10; with_reducible refine HUN.out.mono ?_; rintro e w4 ⟨rfl, hst⟩; obtain ⟨G4, _, hl4, hn4⟩ := HLP.out.quiet hst; have HL4 := Lib.hid hl4; have HN4 := Lib.hid hn4; clear hst hl4 hn4)
          have HCY := Lib.hid (wn_copy w4 b G4 all HL4.out.fr.mem HL4.out.fr.wl)
          clear HUN
          go_upto_region 14 with (go_at_call 11; refine HCY.out.mono ?_; rintro e w5 hpo; obtain ⟨c', G5, he, h2, h3, h4, h5, h6, h7⟩ := hpo.ex; subst he; have HL5 := Lib.hid (HL4.out.below hpo.bel); have HX5 : Hid (LpI w1 c' cW cD E V k G5 all w5) := ⟨⟨h2, h3, fun q hq => Nat.le_trans HL4.out.fr.bel.size (h7 q hq), bel_next HL4.out.fr.bel hpo.bel⟩, ⟨h4.W.trans HL4.out.cfg.1, h4.E.trans HL4.out.cfg.2.1, h4.V.trans HL4.out.cfg.2.2.1, h4.D.trans HL4.out.cfg.2.2.2⟩, by rw [h6]; exact HL4.out.add⟩; have HN5 : Hid (G5.now = Gk.now) := h5.trans HN4.out; clear hpo h2 h3 h4 h5 h6 h7)
          clear HCY HL4
          have HNW := Lib.hid (wn_now w5 b G4 HL5.out.fr.mem)
          have HXZ := Lib.hid (HX.out.below HL5.out.fr.bel HX.out.lt)
          have c0 := HXZ.out.cell (i := 0) rfl
          have hnow : G4.now = Gk.now := HN4.out
          have t3 : decide (ut ≤ G4.now) = false := decide_eq_false (by have := HUT.out; omega)
          have hn0 : Hid (0 ≤ Gk.now) := HLP.out.fr.wl.now.1
          have hw1 : IntKind.i64.wrap (ut - 1) = ut - 1 := IntWalk.i64_in _ (by have := HUT.out; have := hn0.out; omega)
          have hw2 : IntKind.i64.wrap (9223372036854775807 - cW) = 9223372036854775807 - cW := IntWalk.i64_in _ (by have := HCW.out; omega)
          clear hnow
          by_cases hfar : 9223372036854775807 - cW < ut - 1
          · have t4 : decide (9223372036854775807 - cW < ut - 1) = true := decide_eq_true hfar
            clear hfar
            go_wp2_with (first | (go_at_call 12; with_reducible refine HNW.out.mono ?_; rintro e w' ⟨rfl, rfl⟩) | (go_at_call 7; refine (HWK.out _).mono ?_; rintro e w6 ⟨rfl, hb⟩; have HB6 := Lib.hid (HBW.out _ (HL5.out.below hb).fr.bel); clear hb))
            go_ret
            exact HB6.out
          · have t4 : decide (9223372036854775807 - cW < ut - 1) = false := decide_eq_false hfar
            have hck : clkE cW G5.now (ut - 1) = 0 := by
              rw [HN5.out]
              unfold clkE caddE
              have h1 := HUT.out
              have h2 := hn0.out
              have h3 := HCW.out
              rw [if_neg (by omega), if_pos (by omega)]
            have HTK := Lib.hid (wn_tick w5 c' G5 all HX5.out.fr.mem HX5.out.fr.wl (ut - 1) (by have := HUT.out; have := hn0.out; omega))
            have HCK := Lib.hid hck
            have HFAR := Lib.hid hfar
            clear hfar hck
            go_upto_region 20 with (first | (go_at_call 12; with_reducible refine HNW.out.mono ?_; rintro e w' ⟨rfl, rfl⟩) | (go_at_call 9; refine HTK.out.mono ?_; rintro e w6 hpo; obtain ⟨G6, all6, _, hl6, hok, _⟩ := HX5.out.ticked hpo; have hv := hpo.val; rw [HX5.out.cfg.1, HCK.out] at hv; subst hv; obtain ⟨ha6, hn6⟩ := hok HCK.out; subst ha6; have HX6 := Lib.hid hl6; have HN6 := Lib.hid hn6; clear hl6 hn6 hok hpo))
            clear HTK HNW HL5 HXZ c0
            have HCO := rd_connected HX6.out.fr.mem HX6.out.fr.wl u v
            rw [HBF.out.1, HBF.out.2] at HCO
            replace HCO := Lib.hid HCO
            go_upto_region 23 with (go_at_call 13; with_reducible refine HCO.out.mono ?_; rintro e w7 ⟨rfl, hst⟩; obtain ⟨G7, _, hl7, hn7⟩ := HX6.out.quiet hst; have HX7 := Lib.hid hl7; have HN7 := Lib.hid (hn7.trans HN6.out); clear hst hl7 hn7)
            clear HCO HX6
            have HTK := Lib.hid (wn_tick w7 c' G7 _ HX7.out.fr.mem HX7.out.fr.wl ut (by have := HUT.out; have := hn0.out; omega))
            have HXZ := Lib.hid (HX.out.below HX7.out.fr.bel HX.out.lt)
            by_cases hov : ut + cW ≤ 9223372036854775807
            · have hck : clkE cW G7.now ut = 0 := by
                rw [HN7.out]
                unfold clkE caddE
                have h1 := HUT.out
                have h2 := hn0.out
                have h3 := HCW.out
                rw [if_neg (by omega), if_pos (by omega)]
              have HCK2 := Lib.hid hck
              clear hov hck
              go_upto_region 25 with (go_at_call 9; refine HTK.out.mono ?_; rintro e w8 hpo; obtain ⟨G8, all8, _, hl8, hok, _⟩ := HX7.out.ticked hpo; have hv := hpo.val; rw [HX7.out.cfg.1, HCK2.out] at hv; subst hv; obtain ⟨ha8, _⟩ := hok HCK2.out; subst ha8; have HX8 := Lib.hid hl8; clear hl8 hok hpo)
              clear HTK HX7 HXZ
              have HCO := rd_connected HX8.out.fr.mem HX8.out.fr.wl u v
              rw [stay_stay (by omega), HAF.out] at HCO
              have HEE : Hid (conE (stay cW ut (stay cW (ut - 1) all)) u v = 0 ∨ conE (stay cW ut (stay cW (ut - 1) all)) u v = 13) := by
                show _ ∨ _
                unfold conE
                split
                · exact .inl rfl
                · exact .inr rfl
              rw [stay_stay (by omega)] at HEE
              replace HCO := Lib.hid HCO
              generalize conE (stay cW ut all) u v = ee at *
              rcases HEE.out with rfl | rfl
              · go_wp2_with (first | (go_at_call 13; with_reducible refine HCO.out.mono ?_; rintro e w9 ⟨rfl, hst⟩; obtain ⟨G9, _, hl9, _⟩ := HX8.out.quiet hst; have HX9 := Lib.hid hl9; clear hst hl9) | (go_at_call 7; refine (HWK.out _).mono ?_; rintro e w10 ⟨rfl, hb⟩; have HB10 := Lib.hid (HBW.out _ (HX9.out.below hb).fr.bel); clear hb))
                go_ret
                exact HB10.out
              · go_wp2_with (first | (go_at_call 13; with_reducible refine HCO.out.mono ?_; rintro e w9 ⟨rfl, hst⟩; obtain ⟨G9, _, hl9, _⟩ := HX8.out.quiet hst; have HX9 := Lib.hid hl9; clear hst hl9) | (go_at_call 7; refine (HWK.out _).mono ?_; rintro e w10 ⟨rfl, hb⟩; have HB10 := Lib.hid (HBW.out _ (HX9.out.below hb).fr.bel); clear hb))
                go_ret
                exact HB10.out
            · have hck : clkE cW G7.now ut = 7 := by
                rw [HN7.out]
                unfold clkE caddE
                have h1 := HUT.out
                have h2 := hn0.out
                have h3 := HCW.out
                rw [if_neg (by omega), if_neg (by omega)]
              have HCK2 := Lib.hid hck
              have t5 : decide (9223372036854775807 - cW < ut) = true := decide_eq_true (by omega)
              clear hov hck
              go_upto_region 24 with (go_at_call 9; refine HTK.out.mono ?_; rintro e w8 hpo; obtain ⟨G8, all8, _, hl8, _, _⟩ := HX7.out.ticked hpo; have hv := hpo.val; rw [HX7.out.cfg.1, HCK2.out] at hv; subst hv; have HX8 := Lib.hid hl8; clear hl8 hpo)
              clear HTK HX7 HXZ
              have HXZ := Lib.hid (HX.out.below HX8.out.fr.bel HX.out.lt)
              have c0 := HXZ.out.cell (i := 0) rfl
              go_wp2_with (go_at_call 7; refine (HWK.out _).mono ?_; rintro e w10 ⟨rfl, hb⟩; have HB10 := Lib.hid (HBW.out _ (HX8.out.below hb).fr.bel); clear hb)
              go_ret
              exact HB10.out
        · have hub' : unB all u v = false := by cases h : unB all u v; rfl; exact absurd h hub
          have hut : unT cW all u v = 0 := by unfold unT; rw [if_neg hub]
          rw [hub', hut] at HUN
          have HEE : Hid (conE all u v = 0 ∨ conE all u v = 13) := by
            show _ ∨ _
            unfold conE
            split
            · exact .inl rfl
            · exact .inr rfl
          replace HUN := Lib.hid HUN
          clear hub hub' hut
          generalize conE all u v = ee at *
          rcases HEE.out with rfl | rfl
          · go_wp2_with (first | (go_at_call 10; with_reducible refine HUN.out.mono ?_; rintro e w4 ⟨rfl, hst⟩; obtain ⟨G4, _, hl4, _⟩ := HLP.out.quiet hst; have HL4 := Lib.hid hl4; clear hst hl4) | (go_at_call 7; refine (HWK.out _).mono ?_; rintro e w5 ⟨rfl, hb⟩; have HB5 := Lib.hid (HBW.out _ (HL4.out.below hb).fr.bel); clear hb))
            go_ret
            exact HB5.out
          · go_wp2_with (first | (go_at_call 10; with_reducible refine HUN.out.mono ?_; rintro e w4 ⟨rfl, hst⟩; obtain ⟨G4, _, hl4, _⟩ := HLP.out.quiet hst; have HL4 := Lib.hid hl4; clear hst hl4) | (go_at_call 7; refine (HWK.out _).mono ?_; rintro e w5 ⟨rfl, hb⟩; have HB5 := Lib.hid (HBW.out _ (HL4.out.below hb).fr.bel); clear hb))
            go_ret
            exact HB5.out
  · rw [decide_eq_false hsm] at HSM
    replace HSM := Lib.hid HSM
    clear hsm
    go_wp2_with (first | (go_at_call 6; with_reducible refine HSM.out.mono ?_; rintro e w3 ⟨rfl, hb⟩; have HL3 := Lib.hid (HL2.out.below hb); clear hb) | (go_at_call 7; refine (HWK.out _).mono ?_; rintro e w4 ⟨rfl, hb⟩; have HB4 := Lib.hid (HBW.out _ (HL3.out.below hb).fr.bel); clear hb))
    go_ret
    exact HB4.out
end Go.Proofs.YtlooaipipmiijaaGreat
