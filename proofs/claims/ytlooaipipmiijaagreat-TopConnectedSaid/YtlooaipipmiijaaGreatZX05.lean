/- Several texts in one: HeapR, TpB, LcF. -/
import Derived.Test.YtlooaipipmiijaaGreatZX01
import Derived.Test.YtlooaipipmiijaaGreatZX03
import Derived.Test.YtlooaipipmiijaaGreatZX04
namespace Go.Proofs.YtlooaipipmiijaaGreat
set_option linter.unusedVariables false
set_option linter.unusedSimpArgs false
open Go.RowKit
def ents (it : List Ent) : List Value := it.flatMap fun e => [.int .i64 e.1, .int .i64 e.2]
theorem ents_append (a b : List Ent) : ents (a ++ b) = ents a ++ ents b := by simp [ents]
theorem ents_get0 (it : List Ent) (p : Nat) (h : p < it.length) : (ents it)[p * 2]? = some (.int .i64 (ent it p).1) := by
  induction it generalizing p with
  | nil => simp at h
  | cons e l ih =>
    cases p with
    | zero => simp [ents, ent]
    | succ p =>
      have := ih p (by simpa using h)
      simp only [ents, List.flatMap_cons, ent] at *
      rw [show (p + 1) * 2 = p * 2 + 1 + 1 by omega]
      simpa using this
theorem ents_get1 (it : List Ent) (p : Nat) (h : p < it.length) : (ents it)[p * 2 + 1]? = some (.int .i64 (ent it p).2) := by
  induction it generalizing p with
  | nil => simp at h
  | cons e l ih =>
    cases p with
    | zero => simp [ents, ent]
    | succ p =>
      have := ih p (by simpa using h)
      simp only [ents, List.flatMap_cons, ent] at *
      rw [show (p + 1) * 2 + 1 = p * 2 + 1 + 1 + 1 by omega]
      simpa using this
theorem ents_set (it : List Ent) (p : Nat) (e : Ent) : ((ents it).set (p * 2) (.int .i64 e.1)).set (p * 2 + 1) (.int .i64 e.2) = ents (it.set p e) := by
  induction it generalizing p with
  | nil => simp [ents]
  | cons x l ih =>
    cases p with
    | zero => simp [ents]
    | succ p =>
      have := ih p
      simp only [ents, List.flatMap_cons] at *
      rw [show (p + 1) * 2 = p * 2 + 1 + 1 by omega]
      simpa using this
theorem set_same {α : Type} {l : List α} {i : Nat} {v : α} (h : l[i]? = some v) : l.set i v = l := by
  apply List.ext_getElem?
  intro k
  rw [List.getElem?_set]
  split
  · subst_vars
    split
    · exact h.symm
    · rename_i hn; rw [List.getElem?_eq_none (by omega)]
  · rfl
theorem ents_set1 (it : List Ent) (p : Nat) (h : p < it.length) (k : Int) : (ents it).set (p * 2 + 1) (.int .i64 k) = ents (it.set p ((ent it p).1, k)) := by
  rw [← ents_set]
  congr 1
  exact (set_same (ents_get0 it p h)).symm
theorem ents_take (it : List Ent) (n : Nat) : (ents it).take (n * 2) = ents (it.take n) := by
  induction it generalizing n with
  | nil => simp [ents]
  | cons x l ih =>
    cases n with
    | zero => simp [ents]
    | succ n =>
      have := ih n
      simp only [ents, List.flatMap_cons, List.take_succ_cons] at *
      rw [show (n + 1) * 2 = n * 2 + 1 + 1 by omega]
      simpa using this
def upd (f : Nat → Nat) (i x : Nat) : Nat → Nat := fun k => if k = i then x else f k
def plRow (pl : Nat → Nat) (j : Nat) : List Value := (List.range 64).map fun k => .int .i64 (pl (64 * j + k) : Nat)
def tbRow (n : Nat) (tb : Nat → Option Nat) : List Value := (List.range n).map fun j => .pointer ((tb j).map fun q => ⟨q, 0, none⟩)
theorem plRow_get (pl : Nat → Nat) (j k : Nat) (h : k < 64) : (plRow pl j)[k]? = some (.int .i64 (pl (64 * j + k) : Nat)) := by simp [plRow, h]
theorem tbRow_get (n : Nat) (tb : Nat → Option Nat) (j : Nat) (h : j < n) : (tbRow n tb)[j]? = some (.pointer ((tb j).map fun q => ⟨q, 0, none⟩)) := by simp [tbRow, h]
theorem plRow_set (pl : Nat → Nat) (i x : Nat) : (plRow pl (i / 64)).set (i % 64) (.int .i64 (x : Nat)) = plRow (upd pl i x) (i / 64) := by
  apply List.ext_getElem?
  intro k
  rw [List.getElem?_set]
  by_cases hk : k < 64
  · simp only [plRow, upd, List.length_map, List.length_range]
    by_cases e : i % 64 = k
    · have : 64 * (i / 64) + k = i := by omega
      simp [e, hk, this]
    · have : 64 * (i / 64) + k ≠ i := by omega
      simp [e, hk, this]
  · simp only [plRow, upd, List.length_map, List.length_range]
    have : ¬ i % 64 = k := by omega
    simp [hk, this]
theorem plRow_other (pl : Nat → Nat) (i x j : Nat) (h : j ≠ i / 64) : plRow (upd pl i x) j = plRow pl j := by
  apply List.map_congr_left
  intro k hk
  have hk' : k < 64 := by simpa using hk
  have : 64 * j + k ≠ i := by omega
  simp [upd, this]
theorem plRow_zero (pl : Nat → Nat) (j : Nat) (h : ∀ k, k < 64 → pl (64 * j + k) = 0) : plRow pl j = List.replicate 64 (.int .i64 0) := by
  apply List.ext_getElem?
  intro k
  by_cases hk : k < 64
  · rw [plRow_get pl j k hk, h k hk, List.getElem?_replicate, if_pos hk]; rfl
  · rw [List.getElem?_eq_none (by simp [plRow]; omega), List.getElem?_eq_none (by rw [List.length_replicate]; omega)]
theorem tbRow_set (n : Nat) (tb : Nat → Option Nat) (j q : Nat) : (tbRow n tb).set j (.pointer (some ⟨q, 0, none⟩)) = tbRow n (fun k => if k = j then some q else tb k) := by
  apply List.ext_getElem?
  intro k
  rw [List.getElem?_set]
  by_cases hk : k < n
  · by_cases e : j = k
    · subst e; simp [tbRow, hk]
    · have : k ≠ j := fun h => e h.symm
      simp [tbRow, hk, e, this]
  · simp [tbRow, hk]
    intro e; omega
structure HG where
  b : Nat
  slots : Nat
  iv : Value
  it : List Ent
  pb : Nat
  tb : Nat → Option Nat
  pl : Nat → Nat
def HG.np (g : HG) : Nat := (g.slots + 63) / 64
def HG.foot (g : HG) (k : Nat) : Prop := k = g.b ∨ g.iv.ownBlock = some k ∨ k = g.pb ∨ ∃ j, j < g.np ∧ g.tb j = some k
structure HRep (w : World) (g : HG) : Prop where
  hb : Blk w g.b 183 [.pointer (some ⟨g.b, 0, none⟩), .int .i64 (g.slots : Nat), g.iv, .slice (some ⟨g.pb, 0, none⟩) g.np g.np]
  hi : w.ownsRow 0 99 2 g.iv g.it.length (ents g.it)
  hp : Blk w g.pb 185 (tbRow g.np g.tb)
  ht : ∀ j q, j < g.np → g.tb j = some q → Blk w q 187 (plRow g.pl j)
  hn : ∀ j, j < g.np → g.tb j = none → ∀ k, k < 64 → g.pl (64 * j + k) = 0
  hs : g.slots ≤ 65536
  d1 : g.b ≠ g.pb
  d2 : g.iv.ownBlock ≠ some g.b
  d3 : g.iv.ownBlock ≠ some g.pb
  d4 : ∀ j q, j < g.np → g.tb j = some q → q ≠ g.b ∧ q ≠ g.pb ∧ g.iv.ownBlock ≠ some q
  d5 : ∀ j j' q, j < g.np → j' < g.np → g.tb j = some q → g.tb j' = some q → j = j'
theorem HRep.foot_lt {w : World} {g : HG} (h : HRep w g) : ∀ k, g.foot k → k < w.heap.size := by
  rintro k (rfl | hk | rfl | ⟨j, hj, hk⟩)
  · exact h.hb.lt
  · exact (h.hi.lt k hk).2
  · exact h.hp.lt
  · exact (h.ht j k hj hk).lt
theorem owns_same {w w' : World} {base : Nat} {e : TypeId} {size : Nat} {v : Value} {n : Nat} {xs : List Value} (h : w.ownsRow base e size v n xs) (hk : ∀ k, v.ownBlock = some k → w'.heap[k]? = w.heap[k]?) : w'.ownsRow base e size v n xs := by
  refine ⟨h.1, ?_⟩
  rcases h.2 with hn | ⟨g, cap, cur, rfl, hb, hgg, rest⟩
  · exact .inl hn
  · exact .inr ⟨g, cap, cur, rfl, hb, by rw [hk g rfl]; exact hgg, rest⟩
theorem HRep.same {w w' : World} {g : HG} (h : HRep w g) (hk : ∀ k, g.foot k → w'.heap[k]? = w.heap[k]?) : HRep w' g := by
  refine { h with hb := ?_, hi := ?_, hp := ?_, ht := ?_ }
  · have := h.hb; unfold Blk at *; rw [hk _ (.inl rfl)]; exact this
  · exact owns_same h.hi fun k e => hk k (.inr (.inl e))
  · have := h.hp; unfold Blk at *; rw [hk _ (.inr (.inr (.inl rfl)))]; exact this
  · intro j q hj hq
    have := h.ht j q hj hq; unfold Blk at *; rw [hk _ (.inr (.inr (.inr ⟨j, hj, hq⟩)))]; exact this
theorem HRep.mod {F : Nat → Prop} {w w' : World} {g : HG} (h : HRep w g) (m : Mod F w w') (hF : ∀ k, g.foot k → ¬ F k) : HRep w' g :=
  h.same fun k hk => m.block k (h.foot_lt k hk) (hF k hk)
theorem HRep.below {w w' : World} {g : HG} (h : HRep w g) (m : Below w.heap.size w w') : HRep w' g :=
  h.same fun k hk => m.block k (h.foot_lt k hk)
theorem owns_set {w : World} {base : Nat} {e : TypeId} {size g n cap : Nat} {xs : List Value} (h : w.ownsRow base e size (.slice (some ⟨g, 0, none⟩) n cap) n xs) (j : Nat) (hj : j < n * size) (u : Value) :
    (w.setCell ⟨g, j, none⟩ u).ownsRow base e size (.slice (some ⟨g, 0, none⟩) n cap) n (xs.set j u) := by
  refine ⟨by simpa using h.1, ?_⟩
  rcases h.2 with ⟨h', _⟩ | ⟨g', cap', cur, h', hb, hg, h1, h2, hs, htake⟩
  · simp at h'
  · simp only [Value.slice.injEq, Option.some.injEq, Addr.mk.injEq, and_true, true_and] at h'
    obtain ⟨rfl, rfl⟩ := h'
    refine .inr ⟨g, cap, cur.setIfInBounds j u, rfl, hb, ?_, h1, h2, by simpa using hs, ?_⟩
    · simp [World.setCell, Array.getElem?_modify, hg]
    · simp only [Array.toList_setIfInBounds]
      rw [← htake, List.take_set]
theorem owns_form {w : World} {base : Nat} {e : TypeId} {size : Nat} {v : Value} {n : Nat} {xs : List Value} (h : w.ownsRow base e size v n xs) (hn : 0 < n) :
    ∃ g cap, v = .slice (some ⟨g, 0, none⟩) n cap ∧ n ≤ cap ∧ cap ≤ maxLen ∧ g < w.heap.size ∧ (∀ j, j < n * size → w.cell? ⟨g, j, none⟩ = xs[j]?) ∧ (∀ j, w.frozen? ⟨g, j, none⟩ = false) := by
  rcases h.2 with ⟨_, h0⟩ | ⟨g, cap, cur, rfl, hb, hg, h1, h2, hs, htake⟩
  · omega
  · refine ⟨g, cap, rfl, h1, h2, (Array.getElem?_eq_some_iff.1 hg).1, fun j hj => h.cellAt j hj, fun j => by simp [World.frozen?, hg]⟩
theorem owns_slice {w : World} {base : Nat} {e : TypeId} {size : Nat} {v : Value} {n : Nat} {xs : List Value} (h : w.ownsRow base e size v n xs) : ∃ ao cap, v = .slice ao n cap := by
  rcases h.2 with ⟨rfl, rfl⟩ | ⟨g, cap, cur, rfl, _⟩
  · exact ⟨_, _, rfl⟩
  · exact ⟨_, _, rfl⟩
theorem HRep.items {w w' : World} {g : HG} (h : HRep w g) {it' : List Ent} (ho : w'.ownsRow 0 99 2 g.iv it'.length (ents it'))
    (hk : ∀ k, g.foot k → g.iv.ownBlock ≠ some k → w'.heap[k]? = w.heap[k]?) : HRep w' { g with it := it' } := by
  refine { h with hb := ?_, hi := ho, hp := ?_, ht := ?_ }
  · have := h.hb; unfold Blk at *; show w'.heap[g.b]? = _; rw [hk _ (.inl rfl) h.d2]; exact this
  · have := h.hp; unfold Blk at *; show w'.heap[g.pb]? = _; rw [hk _ (.inr (.inr (.inl rfl))) h.d3]; exact this
  · intro j q hj hq
    have := h.ht j q hj hq
    unfold Blk at *
    rw [hk _ (.inr (.inr (.inr ⟨j, hj, hq⟩))) (h.d4 j q hj hq).2.2]
    exact this
structure HStep (g : HG) (w : World) (g' : HG) (w' : World) : Prop where
  rep : HRep w' g'
  mod : Mod g.foot w w'
  b : g'.b = g.b
  slots : g'.slots = g.slots
  foot : ∀ k, g'.foot k → g.foot k ∨ w.heap.size ≤ k
theorem HStep.trans {g g1 g2 : HG} {w w1 w2 : World} (h : HStep g w g1 w1) (k : HStep g1 w1 g2 w2) : HStep g w g2 w2 := by
  have hs := h.mod.size
  refine ⟨k.rep, h.mod.trans k.mod fun x hx hf => ?_, k.b.trans h.b, k.slots.trans h.slots, fun x hx => ?_⟩
  · rcases h.foot x hf with a | a
    · exact a
    · omega
  · rcases k.foot x hx with a | a
    · exact h.foot x a
    · exact .inr (by omega)
end Go.Proofs.YtlooaipipmiijaaGreat

namespace Go.Proofs.YtlooaipipmiijaaGreat
set_option linter.unusedVariables false
set_option linter.unusedSimpArgs false
open Go.RowKit
theorem bel_alloc (w : World) (o : Obj) : Below w.heap.size w (w.alloc o) := (Below.refl _ _).alloc (Nat.le_refl _) _
theorem bel_then {w wy w' : World} (h1 : Below w.heap.size w wy) (h2 : Below wy.heap.size wy w') : Below w.heap.size w w' := h1.trans (h2.mono h1.size)
theorem bel_set {W w' : World} {p i : Nat} {v : Value} (h : Below W.heap.size W w') (hp : W.heap.size ≤ p) : Below W.heap.size W (w'.setCell ⟨p, i, none⟩ v) :=
  h.trans (Mod.below (F := fun k => k = p) (Mod.setCell (Mod.refl (fun k => k = p) w') ⟨p, i, none⟩ (fun _ => rfl) v) h.size (fun x hx => by have hx' : x = p := hx; omega))
theorem bel_mod {F : Nat → Prop} {w w1 w2 : World} (h : Below w.heap.size w w1) (m : Mod F w1 w2) (hF : ∀ x, F x → w.heap.size ≤ x) : Below w.heap.size w w2 := h.trans (m.below h.size hF)
def DrewOf (w w2 : World) : Prop := w2 = w.drew
theorem DrewOf.cell {w w2 : World} (h : DrewOf w w2) {p : Addr} {v : Value} (hc : w.cell? p = some v) : w2.cell? p = some v := by unfold DrewOf at h; subst h; exact hc
theorem DrewOf.frozen {w w2 : World} (h : DrewOf w w2) {p : Addr} {v : Bool} (hc : w.frozen? p = v) : w2.frozen? p = v := by unfold DrewOf at h; subst h; exact hc
theorem DrewOf.mod {F : Nat → Prop} {a w w2 : World} (h : DrewOf w w2) (hc : Mod F a w) : Mod F a w2 := by unfold DrewOf at h; subst h; exact hc.drew
theorem DrewOf.bel {B : Nat} {a w w2 : World} (h : DrewOf w w2) (hc : Below B a w) : Below B a w2 := by unfold DrewOf at h; subst h; exact hc.drew
theorem DrewOf.self {w w2 : World} (h : DrewOf w w2) : Below w.heap.size w w2 := h.bel (Below.refl _ _)
theorem region_tailD {P : Program} {id : Nat} {Q : Exit → Act → World → Prop} {a : Act} {w : World} {l : List Oper} (n : Nat) (hm : P.follows .mixedOrders = true) (hB : Region.lexTailB .any l.toArray n = true)
    (h : ∀ w2, DrewOf w w2 → wpStill P l.toArray w2 (fun a' => wpList P l.toArray Q (l.drop n) a' w2) (l.take n) a) : (Code.region id l.toArray true).wp P Q a w := region_tail n hm hB h
theorem owns_modL {F : Nat → Prop} {w w' : World} {e : TypeId} {size n : Nat} {v : Value} {xs : List Value} (h : w.ownsRow 0 e size v n xs) (m : Mod F w w') (hF : ∀ x, v.ownBlock = some x → ¬ F x) : w'.ownsRow 0 e size v n xs :=
  owns_same h fun k hk => m.block k (h.lt k hk).2 (hF k hk)
end Go.Proofs.YtlooaipipmiijaaGreat

namespace Go.Proofs.YtlooaipipmiijaaGreat
set_option linter.unusedVariables false
set_option linter.unusedSimpArgs false
def att1 (N : NS) (j b : Nat) : NS := updN N j { N j with lt := w64 ((N j).lt + w64 ((N (N j).k1).tot - (N b).tot)), k1 := b }
def attN (N : NS) (j b : Nat) : NS := refN (att1 N j b) j
def Conn (par : Nat → Nat) (x y : Nat) : Prop := ∃ r, par r = 0 ∧ Anc par r x ∧ Anc par r y
theorem Conn.symm {par : Nat → Nat} {x y : Nat} (h : Conn par x y) : Conn par y x := by obtain ⟨r, a, b, c⟩ := h; exact ⟨r, a, c, b⟩
theorem Conn.trans {par : Nat → Nat} {x y z : Nat} (h : Conn par x y) (k : Conn par y z) : Conn par x z := by
  obtain ⟨r, a, b, c⟩ := h
  obtain ⟨r', a', b', c'⟩ := k
  have := c.top_uniq b' a a'
  subst this
  exact ⟨r, a, b, c'⟩
theorem Rk.conn {n : Nat} {par d : Nat → Nat} (h : Rk n par d) {a v : Nat} (k : Anc par a v) (hv : VV n v) : Conn par a v := by
  obtain ⟨r, _, h1, h2⟩ := h.top (d a + 1) a (by omega) (h.anc k hv).1
  exact ⟨r, h1, h2, h2.trans k⟩
theorem att_ne {N : NS} {j b x : Nat} (h : x ≠ j) : attN N j b x = N x := by unfold attN; rw [ref_ne _ h]; exact uN_ne _ _ h
theorem att_at (N : NS) (j b : Nat) : (attN N j b j).k0 = (N j).k0 ∧ (attN N j b j).k1 = b ∧ (attN N j b j).up = (N j).up ∧ (attN N j b j).fl = (N j).fl ∧ (attN N j b j).key = (N j).key ∧ (attN N j b j).lt = w64 ((N j).lt + w64 ((N (N j).k1).tot - (N b).tot)) := by
  obtain ⟨h1, h2, h3, h4, h5, h6⟩ := ref_rest (att1 N j b) j j
  unfold attN
  rw [h1, h2, h3, h4, h5, h6]
  unfold att1
  rw [uN_same]
  exact ⟨rfl, rfl, rfl, rfl, rfl, rfl⟩
theorem sq_open {N : NS} {A : Sp} {j : Nat} {B : Sp} (h : (N j).fl = false) : sq N (.node A j B) = sq N A ++ j :: sq N B := by
  show (if (N j).fl then (sq N A ++ j :: sq N B).reverse else sq N A ++ j :: sq N B) = _
  rw [h]; rfl
section
variable {n : Nat} {N : NS} {T : Nat → Sp} {par pk d : Nat → Nat}
theorem LI.conn_tree (h : LI n N T par pk d) {v x y : Nat} (hv : VV n v) (hx : x ∈ (T v).els) (hy : y ∈ (T v).els) : Conn par x y := by
  obtain ⟨u, z, L, h1, h2, h3, h4, h5, h6, h7, h8⟩ := h.pth hv
  exact (h.rk.conn (h7 x hx).1 (h.own v x hv hx).1).symm.trans (h.rk.conn (h7 y hy).1 (h.own v y hv hy).1)
theorem LI.tots (h : LI n N T par pk d) {t : Sp} {u : Nat} (hr : Rep N t u) (ha : Agg N t) (hs : Sgm par pk u (sq N t) 0) (hv : ∀ y, y ∈ t.els → VV n y) : (N t.root).tot = sub n par ((sq N t).headD 0) ∧ sumW N t.els = sub n par ((sq N t).headD 0) := by
  have hp := sq_perm (N := N) (t := t)
  by_cases e : t.root = 0
  · rw [root_zero hr e]
    show (N 0).tot = sub n par 0 ∧ (0 : Int) = sub n par 0
    rw [h.z, sub_zero]; exact ⟨rfl, rfl⟩
  · have hsum : sumW N t.els = sub n par ((sq N t).headD 0) := by
      rw [← sumW_perm hp]
      cases hq : sq N t with
      | nil => have := hp.mem_iff.2 (root_mem e); rw [hq] at this; exact absurd this List.not_mem_nil
      | cons x L =>
        rw [hq] at hs hp
        exact h.sum L x u hs fun y hy => hv y (hp.mem_iff.1 hy)
    exact ⟨by rw [(agg_root ha e).tot]; exact hsum, hsum⟩
theorem LI.attach (h : LI n N T par pk d) {j b : Nat} {A B : Sp} (hj : VV n j) (ht : T j = .node A j B) (hf : (N j).fl = false) (hb : b = 0 ∨ VV n b ∧ (T b).root = b ∧ (N b).up = j) :
    ∃ T' pk' C, LI n (attN N j b) T' par pk' d ∧ T' j = .node A j C ∧ (N j).k0 ≠ j ∧ b ≠ j ∧ (b = 0 → pk' j = 0) ∧ (b ≠ 0 → C = T b) ∧ (∀ x, x ∉ (T j).els → (b = 0 ∨ x ∉ (T b).els) → T' x = T x ∧ attN N j b x = N x) ∧ (∀ x, x ≠ j → pk' x = pk x) ∧ (b ≠ 0 → j ∉ (T b).els) := by
  obtain ⟨u, x0, L0, r1, r2, r3, r4, r5, r6, r7, r8⟩ := h.pth hj
  have hn := h.nod j hj
  have hown := h.own j
  have hagg := h.agg j hj
  rw [ht] at r1 r2 r4 r7 r8 hn hown hagg
  obtain ⟨j0, hju, hk0, hk1, hrA, hrB⟩ := r1
  obtain ⟨n1, n2, n3⟩ := List.nodup_append.1 hn
  obtain ⟨n4, n5⟩ := List.nodup_cons.1 n2
  have jA : j ∉ A.els := fun hm => n3 j hm j (.head _) rfl
  have AB : ∀ x, x ∈ A.els → x ∉ B.els := fun x hx hy => n3 x hx x (.tail _ hy) rfl
  have mA : ∀ x, x ∈ A.els → x ∈ (Sp.node A j B).els := fun x hx => List.mem_append.2 (.inl hx)
  have mB : ∀ x, x ∈ B.els → x ∈ (Sp.node A j B).els := fun x hx => List.mem_append.2 (.inr (.tail _ hx))
  have mj : j ∈ (Sp.node A j B).els := List.mem_append.2 (.inr (.head _))
  have esq : sq N (Sp.node A j B) = sq N A ++ j :: sq N B := sq_open hf
  have hsg : Sgm par pk u (sq N A ++ j :: sq N B) 0 := by rw [← esq, r2]; exact r3
  obtain ⟨sgA, hpj, hpkj, sgB⟩ := Sgm.app.1 hsg
  obtain ⟨C, rC, agC, nC, oC, dC, sC, eC, eb0, eb1⟩ : ∃ C : Sp, Rep N C j ∧ Agg N C ∧ C.els.Nodup ∧ (∀ x, x ∈ C.els → VV n x ∧ T x = C) ∧ (∀ x, x ∈ C.els → x ∉ (Sp.node A j B).els) ∧ Sgm par pk j (sq N C) 0 ∧ C.root = b ∧ (b = 0 → C = .nil) ∧ (b ≠ 0 → C = T b) := by
    rcases hb with e | ⟨hv, e1, e2⟩
    · exact ⟨.nil, trivial, trivial, List.nodup_nil, fun x hx => absurd hx List.not_mem_nil, fun x hx => absurd hx List.not_mem_nil, trivial, e.symm, fun _ => rfl, fun k => absurd e k⟩
    · obtain ⟨w, h1, h2⟩ := h.ex b hv
      have h8 : w ∉ (T b).els := by
        obtain ⟨u', x', L', q1, q2, q3, q4, q5, q6, q7, q8⟩ := h.pth hv
        rw [q2] at h2
        rw [← h2.1, q5]; exact q8
      have hw : w = j := by
        rw [← e2]
        cases hT : T b with
        | nil => have := h.mem b hv; rw [hT] at this; exact absurd this List.not_mem_nil
        | node l i r =>
          rw [hT] at h1 e1
          rw [← show i = b from e1]; exact h1.2.1.symm
      rw [hw] at h1 h2 h8
      refine ⟨T b, h1, h.agg b hv, h.nod b hv, fun x hx => h.own b x hv hx, fun x hx hx2 => ?_, h2, e1, fun e => by have := hv.1; omega, fun _ => rfl⟩
      rw [← ht] at hx2
      exact h8 (by rw [h.disj hv hj hx hx2]; exact h.mem j hj)
  have jC : j ∉ C.els := fun hm => dC j hm mj
  obtain ⟨tB, sB⟩ := h.tots hrB hagg.2.2 sgB fun y hy => (hown y hj (mB y hy)).1
  obtain ⟨tC, sumC⟩ := h.tots rC agC sC fun y hy => (oC y hy).1
  have hltj := h.lt j hj
  rw [hpkj] at hltj
  have hlt' : w64 ((N j).lt + w64 ((N (N j).k1).tot - (N b).tot)) = (sub n par j : Int) - 1 - sub n par ((sq N C).headD 0) := by
    rw [hk1, ← eC, tB, tC]
    have b1 := sub_le n par ((sq N B).headD 0)
    have b2 := sub_le n par ((sq N C).headD 0)
    have b3 := h.nb
    have b4 := sub_le n par j
    have b5 := h.l0 j hj
    rw [w64_in (x := (sub n par ((sq N B).headD 0) : Int) - _) (by omega), w64_in (by omega)]
    omega
  have hle : sub n par ((sq N C).headD 0) + 1 ≤ sub n par j := by
    cases hq : sq N C with
    | nil =>
      have := h.l0 j hj
      show sub n par 0 + 1 ≤ _
      rw [sub_zero]; omega
    | cons c L =>
      rw [hq] at sC
      have hc : c ∈ C.els := (sq_perm (N := N) (t := C)).mem_iff.1 (by rw [hq]; exact .head _)
      have hpc : par c = j := sC.1
      have := sub_kid h.rk (oC c hc).1 (by rw [hpc]; exact j0)
      rw [hpc] at this
      exact this
  obtain ⟨q0, q1, q2, q3, q4, q5⟩ := att_at N j b
  rw [hlt'] at q5
  have ne : ∀ x, x ≠ j → attN N j b x = N x := fun x hx => att_ne hx
  have neA : ∀ x, x ∈ A.els → attN N j b x = N x := fun x hx => ne x fun e => jA (e ▸ hx)
  have neB : ∀ x, x ∈ B.els → attN N j b x = N x := fun x hx => ne x fun e => n4 (e ▸ hx)
  have neC : ∀ x, x ∈ C.els → attN N j b x = N x := fun x hx => ne x fun e => jC (e ▸ hx)
  let pk' : Nat → Nat := fun x => if x = j then (sq N C).headD 0 else pk x
  have pk1 : pk' j = (sq N C).headD 0 := if_pos rfl
  have pk2 : ∀ x, x ≠ j → pk' x = pk x := fun x hx => if_neg hx
  let T' : Nat → Sp := fun x => if x ∈ B.els then B else if x ∈ A.els ∨ x = j ∨ x ∈ C.els then .node A j C else T x
  have BC : ∀ x, x ∈ C.els → x ∉ B.els := fun x hx hy => dC x hx (mB x hy)
  have AC : ∀ x, x ∈ C.els → x ∉ A.els := fun x hx hy => dC x hx (mA x hy)
  have t1 : ∀ x, x ∈ B.els → T' x = B := fun x hx => if_pos hx
  have t2 : ∀ x, x ∉ B.els → x ∈ A.els ∨ x = j ∨ x ∈ C.els → T' x = .node A j C := fun x hx hy => (if_neg hx).trans (if_pos hy)
  have t3 : ∀ x, x ∉ (Sp.node A j B).els → x ∉ C.els → T' x = T x := fun x hx hy =>
    (if_neg fun hm => hx (mB x hm)).trans (if_neg fun hm => by rcases hm with hm | hm | hm; exact hx (mA x hm); exact hx (hm ▸ mj); exact hy hm)
  have memN : ∀ x, x ∈ (Sp.node A j C).els ↔ x ∈ A.els ∨ x = j ∨ x ∈ C.els := fun x => by
    show x ∈ A.els ++ j :: C.els ↔ _
    rw [List.mem_append, List.mem_cons]
  have notB : ∀ x, x ∈ A.els ∨ x = j ∨ x ∈ C.els → x ∉ B.els := fun x hx => by
    rcases hx with hx | hx | hx
    · exact AB x hx
    · rw [hx]; exact n4
    · exact BC x hx
  have kinds : ∀ v, v ∈ B.els ∨ (v ∉ B.els ∧ (v ∈ A.els ∨ v = j ∨ v ∈ C.els)) ∨ (v ∉ (Sp.node A j B).els ∧ v ∉ C.els) := fun v => by
    by_cases c1 : v ∈ B.els
    · exact .inl c1
    · by_cases c2 : v ∈ A.els ∨ v = j ∨ v ∈ C.els
      · exact .inr (.inl ⟨c1, c2⟩)
      · refine .inr (.inr ⟨fun hm => ?_, fun hm => c2 (.inr (.inr hm))⟩)
        rcases List.mem_append.1 hm with hm | hm
        · exact c2 (.inl hm)
        · rcases List.mem_cons.1 hm with hm | hm
          · exact c2 (.inr (.inl hm))
          · exact c1 hm
  have far : ∀ v, VV n v → v ∉ (Sp.node A j B).els → v ∉ C.els → ∀ x, x ∈ (T v).els → x ∉ (Sp.node A j B).els ∧ x ∉ C.els := fun v hv h1 h2 x hx => by
    constructor
    · intro hm
      refine h1 ?_
      rw [← ht, ← h.disj hv hj hx (by rw [ht]; exact hm)]; exact h.mem v hv
    · intro hm
      obtain ⟨hxv, hxt⟩ := oC x hm
      refine h2 ?_
      rw [← hxt, (h.own v x hv hx).2]; exact h.mem v hv
  have farN : ∀ v, VV n v → v ∉ (Sp.node A j B).els → v ∉ C.els → ∀ x, x ∈ (T v).els → attN N j b x = N x ∧ pk' x = pk x := fun v hv h1 h2 x hx => by
    have hxj : x ≠ j := fun e => (far v hv h1 h2 x hx).1 (e ▸ mj)
    exact ⟨ne x hxj, pk2 x hxj⟩
  refine ⟨T', pk', C, ⟨?_, ?_, ?_, ?_, ?_, ?_, h.rk, ?_, ?_, h.nb⟩, t2 j n4 (.inr (.inl rfl)), ?_, ?_, ?_, eb1, ?_, pk2, ?_⟩
  · rw [ne 0 (fun e => j0 e.symm)]; exact h.z
  · intro v hv
    rcases kinds v with c | ⟨c1, c2⟩ | ⟨c1, c2⟩
    · rw [t1 v c]; exact c
    · rw [t2 v c1 c2, memN]; exact c2
    · rw [t3 v c1 c2]; exact h.mem v hv
  · intro v x hv hx
    rcases kinds v with c | ⟨c1, c2⟩ | ⟨c1, c2⟩
    · rw [t1 v c] at hx ⊢
      exact ⟨(hown x hj (mB x hx)).1, t1 x hx⟩
    · rw [t2 v c1 c2] at hx ⊢
      rw [memN] at hx
      refine ⟨?_, t2 x (notB x hx) hx⟩
      rcases hx with hx | hx | hx
      · exact (hown x hj (mA x hx)).1
      · rw [hx]; exact hj
      · exact (oC x hx).1
    · rw [t3 v c1 c2] at hx ⊢
      obtain ⟨f1, f2⟩ := far v hv c1 c2 x hx
      rw [t3 x f1 f2]
      exact h.own v x hv hx
  · intro v hv
    rcases kinds v with c | ⟨c1, c2⟩ | ⟨c1, c2⟩
    · rw [t1 v c]; exact n5
    · rw [t2 v c1 c2]
      refine List.nodup_append.2 ⟨n1, List.nodup_cons.2 ⟨jC, nC⟩, fun a ha x hx e => ?_⟩
      subst e
      rcases List.mem_cons.1 hx with hx | hx
      · exact jA (hx ▸ ha)
      · exact AC a hx ha
    · rw [t3 v c1 c2]; exact h.nod v hv
  · intro v hv
    rcases kinds v with c | ⟨c1, c2⟩ | ⟨c1, c2⟩
    · rw [t1 v c]
      refine ⟨j, rep_congr hrB fun x hx => by rw [neB x hx]; exact ⟨rfl, rfl, rfl⟩, ?_⟩
      rw [sq_congr (N := N) fun x hx => by rw [neB x hx]]
      exact sgB.congr fun x hx => ⟨rfl, pk2 x fun e => n4 (e ▸ (sq_perm (N := N)).mem_iff.1 hx)⟩
    · rw [t2 v c1 c2]
      refine ⟨u, ⟨j0, by rw [q2]; exact hju, by rw [q0]; exact hk0, by rw [q1]; exact eC.symm, rep_congr hrA fun x hx => by rw [neA x hx]; exact ⟨rfl, rfl, rfl⟩, rep_congr rC fun x hx => by rw [neC x hx]; exact ⟨rfl, rfl, rfl⟩⟩, ?_⟩
      unfold sq
      rw [q3, hf, sq_congr (N := N) (N' := attN N j b) (t := A) fun x hx => by rw [neA x hx], sq_congr (N := N) (N' := attN N j b) (t := C) fun x hx => by rw [neC x hx]]
      show Sgm par pk' u (sq N A ++ j :: sq N C) 0
      exact Sgm.app.2 ⟨sgA.congr fun x hx => ⟨rfl, pk2 x fun e => jA (e ▸ (sq_perm (N := N)).mem_iff.1 hx)⟩, hpj, pk1, sC.congr fun x hx => ⟨rfl, pk2 x fun e => jC (e ▸ (sq_perm (N := N)).mem_iff.1 hx)⟩⟩
    · rw [t3 v c1 c2]
      obtain ⟨w, h1, h2⟩ := h.ex v hv
      refine ⟨w, rep_congr h1 fun x hx => by rw [(farN v hv c1 c2 x hx).1]; exact ⟨rfl, rfl, rfl⟩, ?_⟩
      rw [sq_congr (N := N) fun x hx => by rw [(farN v hv c1 c2 x hx).1]]
      exact h2.congr fun x hx => ⟨rfl, (farN v hv c1 c2 x ((sq_perm (N := N)).mem_iff.1 hx)).2⟩
  · intro v hv
    rcases kinds v with c | ⟨c1, c2⟩ | ⟨c1, c2⟩
    · rw [t1 v c]
      exact agg_congr hagg.2.2 fun x hx => by rw [neB x hx]; exact ⟨rfl, rfl, rfl, rfl, rfl⟩
    · rw [t2 v c1 c2]
      have n1A : ∀ x, x ≠ j → att1 N j b x = N x := fun x hx => uN_ne _ _ hx
      have n1j : (att1 N j b j).lt = (sub n par j : Int) - 1 - sub n par ((sq N C).headD 0) ∧ (att1 N j b j).k0 = A.root ∧ (att1 N j b j).k1 = C.root ∧ (att1 N j b j).key = (N j).key := by
        unfold att1; rw [uN_same]; exact ⟨hlt', hk0, eC.symm, rfl⟩
      have rA1 : Rep (att1 N j b) A j := rep_congr hrA fun x hx => by rw [n1A x fun e => jA (e ▸ hx)]; exact ⟨rfl, rfl, rfl⟩
      have rC1 : Rep (att1 N j b) C j := rep_congr rC fun x hx => by rw [n1A x fun e => jC (e ▸ hx)]; exact ⟨rfl, rfl, rfl⟩
      have aA1 : Agg (att1 N j b) A := agg_congr hagg.2.1 fun x hx => by rw [n1A x fun e => jA (e ▸ hx)]; exact ⟨rfl, rfl, rfl, rfl, rfl⟩
      have aC1 : Agg (att1 N j b) C := agg_congr agC fun x hx => by rw [n1A x fun e => jC (e ▸ hx)]; exact ⟨rfl, rfl, rfl, rfl, rfl⟩
      have lt1 : ∀ x, x ∈ j :: (A.els ++ C.els) → 0 ≤ (att1 N j b x).lt := fun x hx => by
        by_cases e : x = j
        · rw [e, n1j.1]; omega
        · rw [n1A x e]
          rcases List.mem_cons.1 hx with hx | hx
          · exact absurd hx e
          · rcases List.mem_append.1 hx with hx | hx
            · exact h.l0 x (hown x hj (mA x hx)).1
            · exact h.l0 x (oC x hx).1
      have hs : sumW (att1 N j b) (j :: (A.els ++ C.els)) ≤ 4611686018427387904 := by
        rw [sumW_cons, sumW_append, n1j.1, sumW_congr (N := N) (L := A.els) fun x hx => by rw [n1A x fun e => jA (e ▸ hx)], sumW_congr (N := N) (L := C.els) fun x hx => by rw [n1A x fun e => jC (e ▸ hx)], sumC]
        have b1 := sub_le n par j
        have b2 := sub_le n par x0
        have b3 := h.nb
        have b4 : sumW N (A.els ++ j :: B.els) = sub n par x0 := by
          rw [← h.sum L0 x0 u r3 fun y hy => (hown y hj ((r4 y).1 hy)).1, ← r2]
          exact (sumW_perm (sq_perm (t := Sp.node A j B))).symm
        rw [sumW_append, sumW_cons] at b4
        have b5 := sumW_ge (N := N) (L := B.els) fun x hx => h.l0 x (hown x hj (mB x hx)).1
        have b6 := h.l0 j hj
        omega
      have ok := frsh_ok rA1 rC1 aA1 aC1 n1j.2.1 n1j.2.2.1 lt1 hs jA jC
      exact ⟨ok.perm List.perm_middle.symm, agg_congr hagg.2.1 fun x hx => by rw [neA x hx]; exact ⟨rfl, rfl, rfl, rfl, rfl⟩, agg_congr agC fun x hx => by rw [neC x hx]; exact ⟨rfl, rfl, rfl, rfl, rfl⟩⟩
    · rw [t3 v c1 c2]
      exact agg_congr (h.agg v hv) fun x hx => by rw [(farN v hv c1 c2 x hx).1]; exact ⟨rfl, rfl, rfl, rfl, rfl⟩
  · intro v hv
    by_cases e : v = j
    · rw [e, q5, pk1]; omega
    · rw [ne v e, pk2 v e]; exact h.lt v hv
  · intro v hv
    by_cases e : v = j
    · rw [e, q5]; omega
    · rw [ne v e]; exact h.l0 v hv
  · rw [hk0]; exact fun e => jA (by rw [← e]; exact root_mem (by rw [e]; exact j0))
  · rw [← eC]; exact fun e => jC (by rw [← e]; exact root_mem (by rw [e]; exact j0))
  · intro e; rw [pk1, eb0 e]; rfl
  · intro x h1 h2
    rw [ht] at h1
    have hxC : x ∉ C.els := by
      by_cases e : b = 0
      · rw [eb0 e]; exact List.not_mem_nil
      · rw [eb1 e]; exact h2.resolve_left e
    exact ⟨t3 x h1 hxC, ne x fun e => h1 (e ▸ mj)⟩
  · intro e; rw [← eb1 e]; exact jC
inductive ExR : Nat → NS → Nat → Nat → NS → Nat → Prop
  | done {N : NS} {b : Nat} : ExR 0 N 0 b N b
  | step {m : Nat} {N N1 N' : NS} {j b b' : Nat} (h : j ≠ 0) (s : SplayR N j N1) (p0 : (N1 j).k0 ≠ j) (p1 : b ≠ j) (k : ExR m (attN N1 j b) (attN N1 j b j).up j N' b') : ExR (m + 1) N j b N' b'
def ExposeR (N : NS) (i : Nat) (N' : NS) (b : Nat) : Prop := ∃ m N1, ExR m N i 0 N1 b ∧ SplayR N1 i N'
theorem LI.exloop {i : Nat} (hi : VV n i) : ∀ (k : Nat) (N : NS) (T : Nat → Sp) (pk : Nat → Nat) (j b : Nat), LI n N T par pk d → (j = 0 ∨ VV n j ∧ d j < k) → (b = 0 ∧ j = i ∨ b ≠ 0 ∧ VV n b ∧ (T b).root = b ∧ (N b).up = j ∧ i ∈ (T b).els ∧ pk i = 0) → (j ≠ 0 → Anc par j i) →
    ∃ m N' T' pk' b', ExR m N j b N' b' ∧ LI n N' T' par pk' d ∧ VV n b' ∧ (T' b').root = b' ∧ (N' b').up = 0 ∧ i ∈ (T' b').els ∧ pk' i = 0 ∧ (∀ x, (N' x).key = (N x).key) ∧ (∀ x, VV n x → ¬ Conn par x i → N' x = N x ∧ T' x = T x) := by
  intro k
  induction k with
  | zero =>
    intro N T pk j b h hj hb _
    have e : j = 0 := by rcases hj with e | ⟨_, e⟩; exact e; omega
    subst e
    rcases hb with ⟨_, e⟩ | ⟨_, h1, h2, h3, h4, h5⟩
    · have := hi.1; omega
    · exact ⟨0, N, T, pk, b, .done, h, h1, h2, h3, h4, h5, fun _ => rfl, fun _ _ _ => ⟨rfl, rfl⟩⟩
  | succ k ih =>
    intro N T pk j b h hj hb ha
    rcases hj with e | ⟨hjv, hjd⟩
    · subst e
      rcases hb with ⟨_, e⟩ | ⟨_, h1, h2, h3, h4, h5⟩
      · have := hi.1; omega
      · exact ⟨0, N, T, pk, b, .done, h, h1, h2, h3, h4, h5, fun _ => rfl, fun _ _ _ => ⟨rfl, rfl⟩⟩
    · have j0 : j ≠ 0 := by have := hjv.1; omega
      obtain ⟨N1, T1, A, B, hs, h1, ht1, hf1, hk1, ho1, hp1, _⟩ := h.splay hjv
      have hb1 : b = 0 ∨ VV n b ∧ (T1 b).root = b ∧ (N1 b).up = j := by
        rcases hb with ⟨e, _⟩ | ⟨_, b1, b2, b3, _⟩
        · exact .inl e
        · refine .inr ⟨b1, ?_⟩
          have hbn : b ∉ (T j).els := fun hm => by
            obtain ⟨u', x', L', q1, q2, q3, q4, q5, q6, q7, q8⟩ := h.pth b1
            have : u' = j := by
              rw [← b3]
              cases hT : T b with
              | nil => have := h.mem b b1; rw [hT] at this; exact absurd this List.not_mem_nil
              | node l z r =>
                rw [hT] at q1 b2
                rw [← show z = b from b2]; exact q1.2.1.symm
            rw [this] at q8
            exact q8 (by rw [(h.own j b hjv hm).2]; exact h.mem j hjv)
          rw [(ho1 b hbn).1, (ho1 b hbn).2]
          exact ⟨b2, b3⟩
      obtain ⟨T2, pk2, C, h2, ht2, p0, p1, pb0, pb1, po, pk3, pj⟩ := h1.attach hjv ht1 hf1 hb1
      obtain ⟨_, _, a2, _, a4, _⟩ := att_at N1 j b
      obtain ⟨u, x, L, r1, r2, r3, r4, r5, r6, r7, r8⟩ := h2.pth hjv
      have hup : (attN N1 j b j).up = u := by rw [ht2] at r1; exact r1.2.1
      have hAx : Anc par x j := (r7 j (h2.mem j hjv)).1
      have hdx : d x ≤ d j := by rcases (r7 j (h2.mem j hjv)).2 with e | e; rw [e]; exact Nat.le_refl _; omega
      have hT1i : b ≠ 0 → T1 b = T b := fun e => by
        rcases hb with ⟨e', _⟩ | ⟨_, b1, b2, b3, b4, b5⟩
        · exact absurd e' e
        · refine (ho1 b fun hm => ?_).2
          have := h1.mem j hjv
          have e3 : b ∈ (T1 j).els := hp1.mem_iff.2 hm
          have e4 := (h1.own j b hjv e3).2
          exact pj e (by rw [e4]; exact this)
      have hbi : i ∈ (T2 j).els ∧ pk2 i = 0 := by
        rw [ht2]
        rcases hb with ⟨e, e'⟩ | ⟨e, b1, b2, b3, b4, b5⟩
        · subst e'
          exact ⟨List.mem_append.2 (.inr (.head _)), pb0 e⟩
        · have hiC : i ∈ C.els := by rw [pb1 e, hT1i e]; exact b4
          refine ⟨List.mem_append.2 (.inr (.tail _ hiC)), ?_⟩
          have : i ≠ j := fun e2 => pj e (by rw [← pb1 e, ← e2]; exact hiC)
          rw [pk3 i this]; exact b5
      have huv : u = 0 ∨ VV n u ∧ d u < k := by
        rcases h2.rk x r6 with e | ⟨e1, e2⟩
        · rw [r5] at e; exact .inl e
        · rw [r5] at e1 e2; exact .inr ⟨e1, by omega⟩
      have hAu : u ≠ 0 → Anc par u i := fun e => by
        have : Anc par u x := .up (by rw [r5]; exact e) (by rw [r5]; exact .refl)
        exact (this.trans hAx).trans (ha j0)
      obtain ⟨m, N', T', pk', b', g1, g2, g3, g4, g5, g6, g7, g8, g9⟩ := ih (attN N1 j b) T2 pk2 u j h2 huv (.inr ⟨j0, hjv, by rw [ht2]; rfl, hup, hbi.1, hbi.2⟩) hAu
      refine ⟨m + 1, N', T', pk', b', .step j0 hs p0 p1 (by rw [hup]; exact g1), g2, g3, g4, g5, g6, g7, fun y => ?_, fun y hy hn => ?_⟩
      · rw [g8 y]
        by_cases e : y = j
        · rw [e, a4]; exact hk1 j
        · rw [att_ne e]; exact hk1 y
      · obtain ⟨e1, e2⟩ := g9 y hy hn
        have hyj : y ∉ (T j).els := fun hm => hn ((h.conn_tree hjv hm (h.mem j hjv)).trans (h.rk.conn (ha j0) hi))
        have hyj1 : y ∉ (T1 j).els := fun hm => hyj (hp1.mem_iff.1 hm)
        have hyb : b = 0 ∨ y ∉ (T1 b).els := by
          rcases hb with ⟨e, _⟩ | ⟨e, b1, b2, b3, b4, b5⟩
          · exact .inl e
          · refine .inr fun hm => ?_
            rw [hT1i e] at hm
            exact hn (h.conn_tree b1 hm b4)
        obtain ⟨e3, e4⟩ := po y hyj1 hyb
        obtain ⟨e5, e6⟩ := ho1 y hyj
        exact ⟨by rw [e1, e4, e5], by rw [e2, e3, e6]⟩
structure Exd (n : Nat) (N : NS) (T : Nat → Sp) (par d : Nat → Nat) (i : Nat) (N' : NS) (T' : Nat → Sp) (pk' : Nat → Nat) (A : Sp) : Prop where
  li : LI n N' T' par pk' d
  ti : T' i = .node A i .nil
  fl : (N' i).fl = false
  up : (N' i).up = 0
  pki : pk' i = 0
  key : ∀ x, (N' x).key = (N x).key
  fr : ∀ x, VV n x → ¬ Conn par x i → N' x = N x ∧ T' x = T x
theorem LI.expose (h : LI n N T par pk d) {i : Nat} (hi : VV n i) : ∃ N' T' pk' A b, ExposeR N i N' b ∧ b ≤ n ∧ Exd n N T par d i N' T' pk' A := by
  obtain ⟨m, N1, T1, pk1, b, g1, g2, g3, g4, g5, g6, g7, g8, g9⟩ := LI.exloop hi (d i + 1) N T pk i 0 h (.inr ⟨hi, by omega⟩) (.inl ⟨rfl, rfl⟩) fun _ => .refl
  obtain ⟨N', T', A, B, hs, h1, ht1, hf1, hk1, ho1, hp1, hq1⟩ := g2.splay hi
  have hTb : T1 i = T1 b := (g2.own b i g3 g6).2
  obtain ⟨u, x, L, r1, r2, r3, r4, r5, r6, r7, r8⟩ := g2.pth hi
  have hu : u = 0 := by
    rw [hTb] at r1
    have e : (N1 b).up = u := by
      cases hT : T1 b with
      | nil => have := g2.mem b g3; rw [hT] at this; exact absurd this List.not_mem_nil
      | node l z r =>
        rw [hT] at r1 g4
        rw [← show z = b from g4]; exact r1.2.1
    rw [← e]; exact g5
  obtain ⟨u', x', L', s1, s2, s3, s4, s5, s6, s7, s8⟩ := h1.pth hi
  have hu' : u' = 0 := by
    rw [hq1, r2] at s2
    injection s2 with e1 e2
    rw [← s5, ← e1, r5, hu]
  rw [hu'] at s1 s3
  have hB : B = .nil := by
    rw [← s2, ht1] at s3
    have : sq N' (.node A i B) = sq N' A ++ i :: sq N' B := sq_open hf1
    rw [this] at s3
    obtain ⟨_, _, c1, _⟩ := Sgm.app.1 s3
    rw [g7] at c1
    have hrB : Rep N' B i := by rw [ht1] at s1; exact s1.2.2.2.2.2
    cases hq : sq N' B with
    | nil =>
      by_cases e : B.root = 0
      · exact root_zero hrB e
      · have := (sq_perm (N := N')).mem_iff.2 (root_mem e)
        rw [hq] at this; exact absurd this List.not_mem_nil
    | cons c L =>
      rw [hq] at c1
      exact absurd c1.symm (rep_nz hrB c ((sq_perm (N := N')).mem_iff.1 (by rw [hq]; exact .head _)))
  rw [hB] at ht1
  refine ⟨N', T', pk1, A, b, ⟨m, N1, g1, hs⟩, g3.2, ⟨h1, ht1, hf1, by rw [ht1] at s1; exact s1.2.1, g7, fun x => by rw [hk1, g8], fun y hy hn => ?_⟩⟩
  obtain ⟨e1, e2⟩ := g9 y hy hn
  have : y ∉ (T1 i).els := fun hm => hn (g2.conn_tree hi hm (g2.mem i hi))
  obtain ⟨e3, e4⟩ := ho1 y this
  exact ⟨e3.trans e1, e4.trans e2⟩
end
end Go.Proofs.YtlooaipipmiijaaGreat
