/- Several texts in one: RfN, RfP, RfO, RfG, RfH. -/
import Derived.Test.YthacjealoomioaaDoorZRcI
import Derived.Test.YthacjealoomioaaDoorZRcRf
import Derived.RegionTactic
import Derived.BigRegion
import Derived.Test.YthacjealoomioaaDoorZRcU
/- Reference of layer 13: New. -/
namespace Go.Proofs.YthacjealoomioaaDoor
set_option linter.unusedVariables false
set_option linter.unusedSimpArgs false
open Go.RowKit

theorem owns_nilcap {w : World} {B e size n cap : Nat} {ao : Option Addr} {xs : List Value} (h : w.ownsRow B e size (.slice ao n cap) n xs) : ao = none → cap = 0 := fun e => by
  subst e
  rcases h.2 with ⟨h', _⟩ | ⟨g, c, cur, h', _⟩
  · injection h' with _ _ h3
  · injection h' with h1; cases h1

end Go.Proofs.YthacjealoomioaaDoor

/- Reference of layers 17 and 18, plainly: an insertion sort; the tree that grows node by node. No program in sight. -/
namespace Go.Proofs.YthacjealoomioaaDoor
set_option linter.unusedVariables false
set_option linter.unusedSimpArgs false
open Go.RowKit

/- The insertion sort. -/
/-- The number i has come down to the place j: what is behind it is greater. -/
structure InsAt (l : List Ed) (i j : Nat) (out : List Nat) : Prop where
  ex : ∃ A B, out = A ++ i :: B ∧ A.length = j ∧ (A ++ B).Pairwise (olt l) ∧ (A ++ B).Perm (List.range i) ∧ ∀ b ∈ B, olt l i b

structure SrtAt (l : List Ed) (i : Nat) (out : List Nat) : Prop where
  srt : out.Pairwise (olt l)
  perm : out.Perm (List.range i)

theorem SrtAt.nil (l : List Ed) : SrtAt l 0 [] := ⟨List.Pairwise.nil, by simp⟩
theorem SrtAt.len {l : List Ed} {i : Nat} {out : List Nat} (h : SrtAt l i out) : out.length = i := by rw [h.perm.length_eq, List.length_range]
theorem SrtAt.mem {l : List Ed} {i : Nat} {out : List Nat} (h : SrtAt l i out) {x : Nat} (hx : x ∈ out) : x < i := List.mem_range.1 (h.perm.mem_iff.1 hx)
theorem SrtAt.all {l : List Ed} {out : List Nat} (h : SrtAt l l.length out) : out = ordL l := ord_unique h.perm h.srt
theorem SrtAt.ins {l : List Ed} {i : Nat} {out : List Nat} (h : SrtAt l i out) : InsAt l i i (out ++ [i]) := by
  refine ⟨out, [], by simp, h.len, by rw [List.append_nil]; exact h.srt, by rw [List.append_nil]; exact h.perm, by simp⟩

theorem InsAt.len {l : List Ed} {i j : Nat} {out : List Nat} (h : InsAt l i j out) : out.length = i + 1 := by
  obtain ⟨A, B, rfl, _, _, hp, _⟩ := h.ex
  have := hp.length_eq
  simp only [List.length_append, List.length_range, List.length_cons] at this ⊢
  omega
theorem InsAt.le {l : List Ed} {i j : Nat} {out : List Nat} (h : InsAt l i j out) : j ≤ i := by
  obtain ⟨A, B, rfl, rfl, _, hp, _⟩ := h.ex
  have := hp.length_eq
  simp only [List.length_append, List.length_range] at this
  omega
theorem getD_mid {A B : List Nat} {x : Nat} : (A ++ x :: B).getD A.length 0 = x := by
  rw [List.getD_eq_getElem?_getD, List.getElem?_append_right (Nat.le_refl _)]; simp
theorem InsAt.self {l : List Ed} {i j : Nat} {out : List Nat} (h : InsAt l i j out) : out.getD j 0 = i := by
  obtain ⟨A, B, rfl, rfl, _, _, _⟩ := h.ex
  exact getD_mid
theorem split_last {A : List Nat} {j : Nat} (h : A.length = j + 1) : ∃ A' x, A = A' ++ [x] ∧ A'.length = j := by
  have hne : A ≠ [] := by intro e; subst e; cases h
  refine ⟨A.dropLast, A.getLast hne, (List.dropLast_concat_getLast hne).symm, ?_⟩
  rw [List.length_dropLast, h]; rfl
theorem InsAt.lt {l : List Ed} {i j : Nat} {out : List Nat} (h : InsAt l i j out) {y : Nat} (hy : y < i + 1) : out.getD y 0 ≤ i := by
  have hl := h.len
  obtain ⟨A, B, rfl, rfl, _, hp, _⟩ := h.ex
  have hm : (A ++ i :: B).getD y 0 ∈ A ++ i :: B := by
    rw [List.getD_eq_getElem?_getD, List.getElem?_eq_getElem (by omega)]
    exact List.getElem_mem _
  generalize (A ++ i :: B).getD y 0 = z at *
  rcases List.mem_append.1 hm with h1 | h1
  · have := List.mem_range.1 (hp.mem_iff.1 (List.mem_append_left B h1)); omega
  · rcases List.mem_cons.1 h1 with h1 | h1
    · omega
    · have := List.mem_range.1 (hp.mem_iff.1 (List.mem_append_right A h1)); omega
/-- One exchange. -/
theorem InsAt.swap {l : List Ed} {i j : Nat} {out : List Nat} (h : InsAt l i (j + 1) out) (hlt : wI l i < wI l (out.getD j 0)) : InsAt l i j ((out.set (j + 1) (out.getD j 0)).set j i) := by
  obtain ⟨A, B, rfl, hA, hs, hp, hB⟩ := h.ex
  obtain ⟨A', x, rfl, rfl⟩ := split_last hA
  have e0 : (A' ++ [x] ++ i :: B).getD A'.length 0 = x := by rw [List.append_assoc]; exact getD_mid
  rw [e0] at hlt ⊢
  refine ⟨A', x :: B, ?_, rfl, by simpa using hs, by simpa using hp, fun b hb => ?_⟩
  · rw [List.append_assoc, List.set_append_right _ _ (by omega), show A'.length + 1 - A'.length = 1 by omega, List.set_append_right _ _ (Nat.le_refl _), Nat.sub_self]
    rfl
  · rcases List.mem_cons.1 hb with e | hb
    · subst e; exact .inl hlt
    · exact hB b hb
/-- The place is found. -/
theorem InsAt.done {l : List Ed} {i j : Nat} {out : List Nat} (h : InsAt l i j out) (hge : j = 0 ∨ ¬ wI l i < wI l (out.getD (j - 1) 0)) : SrtAt l (i + 1) out := by
  obtain ⟨A, B, rfl, hA, hs, hp, hB⟩ := h.ex
  have hpp : (A ++ i :: B).Perm (List.range (i + 1)) := by
    rw [List.range_succ]
    exact List.perm_middle.trans ((List.Perm.cons i hp).trans (List.perm_append_singleton i (List.range i)).symm)
  refine ⟨?_, hpp⟩
  obtain ⟨hsA, hsB, hAB⟩ := List.pairwise_append.1 hs
  have hAi : ∀ a ∈ A, olt l a i := by
    rcases Nat.eq_zero_or_pos j with h0 | h0
    · subst h0
      have : A = [] := List.eq_nil_of_length_eq_zero hA
      subst this
      intro a ha; cases ha
    · obtain ⟨k, rfl⟩ : ∃ k, j = k + 1 := ⟨j - 1, by omega⟩
      obtain ⟨A', x, rfl, rfl⟩ := split_last hA
      have e0 : (A' ++ [x] ++ i :: B).getD (A'.length + 1 - 1) 0 = x := by rw [List.append_assoc, Nat.add_sub_cancel]; exact getD_mid
      rw [e0] at hge
      have hge' : ¬ wI l i < wI l x := by rcases hge with h | h; (· omega); (· exact h)
      have hx : x < i := List.mem_range.1 (hp.mem_iff.1 (List.mem_append_left B (List.mem_append_right A' (List.mem_singleton.2 rfl))))
      have hxi : olt l x i := by unfold olt; omega
      intro a ha
      rcases List.mem_append.1 ha with ha | ha
      · exact olt_trans ((List.pairwise_append.1 hsA).2.2 a ha x (List.mem_singleton.2 rfl)) hxi
      · rw [List.mem_singleton.1 ha]; exact hxi
  refine List.pairwise_append.2 ⟨hsA, List.pairwise_cons.2 ⟨hB, hsB⟩, fun a ha b hb => ?_⟩
  rcases List.mem_cons.1 hb with e | hb
  · subst e; exact hAi a ha
  · exact hAB a ha b hb

/- The tree that grows. -/
/-- The first c nodes. -/
def trT (t : Tr) (c : Nat) : Tr := ⟨t.lv, t.left.take c, t.right.take c, t.par.take c, t.hgt.take c, t.siz.take c⟩
theorem gi_take {l : List Int} {c x : Nat} (h : x < c) : gi (l.take c) x = gi l x := by
  unfold gi; rw [List.getD_eq_getElem?_getD, List.getElem?_take_of_lt h, ← List.getD_eq_getElem?_getD]

theorem grow_up {n m : Nat} {s : Bd} {cur : Nat} {ls : List Nat} (h : BInv n m s cur ls) (h2 : BInv2 n s cur ls) : ∀ d x, x < cur → cur - x ≤ d → Up (trT s.t cur) cur x (s.top.getD (s.k.getD (ls.getD x 0) 0) 0)
  | 0, x, hx, hd => by omega
  | d + 1, x, hx, hd => by
    rcases h.par1 x hx with e | ⟨p, e, h3, h4, h5⟩
    · rw [h2.r x hx e]
      exact .root hx (by show gi (s.t.par.take cur) x = -1; rw [gi_take hx]; exact e)
    · have hi := h.inn p h3 h4
      have hxp : x < p := by
        have := hi.1.1
        have := hi.1.2.1
        rcases h5 with h5 | h5 <;> omega
      have hk := h2.p x hx p e
      have := grow_up h h2 d p h4 (by omega)
      rw [hk] at this
      exact .step hx (by show gi (s.t.par.take cur) x = p; rw [gi_take hx]; exact e) hxp this

theorem grow_low {n m : Nat} {s : Bd} {cur : Nat} {ls : List Nat} (h : BInv n m s cur ls) : ∀ d x, x < cur → x ≤ d → Low (trT s.t cur) n cur x (ls.getD x 0) := by
  intro d
  induction d with
  | zero =>
    intro x hx hd
    have hx0 : x = 0 := by omega
    by_cases hn : x < n
    · rw [h.ls0 x hn]; exact .leaf hn
    · have hi := (h.inn x (by omega) hx).1.1
      omega
  | succ d ih =>
    intro x hx hd
    by_cases hn : x < n
    · rw [h.ls0 x hn]; exact .leaf hn
    · have hi := h.inn x (by omega) hx
      have hl : gi s.t.left x = (lc s.t x : Int) := by unfold lc; have := hi.1.1; omega
      have hr : gi s.t.right x = (rc s.t x : Int) := by unfold rc; have := hi.1.2.1; omega
      have h1 : lc s.t x < x := by have := hi.1.1; omega
      have h2 : rc s.t x < x := by have := hi.1.2.1; omega
      have := Low.node (t := trT s.t cur) (n := n) (m := cur) (by omega) hx (show gi (s.t.left.take cur) x = (lc s.t x : Int) by rw [gi_take hx]; exact hl) (show gi (s.t.right.take cur) x = (rc s.t x : Int) by rw [gi_take hx]; exact hr)
        (ih _ (by omega) (by omega)) (ih _ (by omega) (by omega))
      rw [Nat.min_eq_left (Nat.le_of_lt hi.2.1.2.2), ← h.ls1 x (by omega) hx] at this
      exact this

/-- The root above a vertex, and the least leaf below it. -/
theorem grow_root {n m : Nat} {s : Bd} {cur : Nat} {ls : List Nat} (h : BInv n m s cur ls) (h2 : BInv2 n s cur ls) {x : Nat} (hx : x < n) :
    Up (trT s.t cur) cur x (s.top.getD (s.k.getD x 0) 0) ∧ s.top.getD (s.k.getD x 0) 0 < cur ∧ Low (trT s.t cur) n cur (s.top.getD (s.k.getD x 0) 0) (s.k.getD x 0) := by
  have hc := h.nc
  have h1 := grow_up h h2 cur x (by omega) (by omega)
  rw [h.ls0 x hx] at h1
  have hk := h.kok.idem x hx
  have hkn : s.k.getD x 0 < n := by have := h.kok.le x hx; omega
  obtain ⟨t1, t2, t3⟩ := h.top _ hkn hk
  have h3 := grow_low h cur _ t1 (Nat.le_of_lt t1)
  rw [t3] at h3
  exact ⟨h1, t1, h3⟩

theorem take_set_snoc {l : List Int} {c : Nat} {v : Int} (h : c < l.length) : (l.set c v).take (c + 1) = l.take c ++ [v] := by
  rw [List.take_succ_eq_append_getElem (by rw [List.length_set]; exact h), List.take_set_of_le (Nat.le_refl _), List.getElem_set_self]
theorem take_snocI {l : List Int} {c : Nat} (h : c < l.length) : l.take (c + 1) = l.take c ++ [gi l c] := by
  rw [List.take_succ_eq_append_getElem h]
  unfold gi
  rw [List.getD_eq_getElem?_getD, List.getElem?_eq_getElem h]; rfl

/-- A node is added. -/
theorem grow_step {n m : Nat} {s : Bd} {cur : Nat} {ls : List Nat} (h : BInv n m s cur ls) (hc : cur < m) (l : List Ed) (i : Nat) {a b : Nat} (ha : s.lf l i = a) (hb : s.rg l i = b) (h1 : a < cur) (h2 : b < cur) {w z : Int} (hw : wI l i = w) (hz : gi (trT s.t cur).siz a + gi (trT s.t cur).siz b = z) :
    trT (s.step l cur i).t (cur + 1) = ⟨(trT s.t cur).lv, (trT s.t cur).left ++ [(a : Int)], (trT s.t cur).right ++ [(b : Int)], (((trT s.t cur).par ++ [-1]).set a (cur : Int)).set b (cur : Int), (trT s.t cur).hgt ++ [w], (trT s.t cur).siz ++ [z]⟩ := by
  have e1 := h.ll
  have e2 := h.rl
  have e3 := h.pl
  have e4 := h.hl
  have e5 := h.sl
  unfold trT Bd.step
  simp only [ha, hb, hw]
  rw [take_set_snoc (by omega), take_set_snoc (by omega), take_set_snoc (by omega), take_set_snoc (by omega)]
  have ep : ((s.t.par.set a (cur : Int)).set b (cur : Int)).take (cur + 1) = ((s.t.par.take cur ++ [-1]).set a (cur : Int)).set b (cur : Int) := by
    rw [List.take_set, List.take_set, take_snocI (by omega), h.par0 cur (Nat.le_refl _) hc]
  have es : s.t.siz.getD a 0 + s.t.siz.getD b 0 = z := by
    rw [← hz]
    show gi s.t.siz a + gi s.t.siz b = gi (s.t.siz.take cur) a + gi (s.t.siz.take cur) b
    rw [gi_take h1, gi_take h2]
  rw [ep, es]

/-- i leaves. -/
def lvT (n i : Nat) : Tr := ⟨n, List.replicate i (-1), List.replicate i (-1), List.replicate i (-1), List.replicate i 0, List.replicate i 1⟩
theorem lvT_zero (n : Nat) : lvT n 0 = ⟨n, [], [], [], [], []⟩ := rfl
theorem lvT_succ (n i : Nat) : lvT n (i + 1) = ⟨(lvT n i).lv, (lvT n i).left ++ [-1], (lvT n i).right ++ [-1], (lvT n i).par ++ [-1], (lvT n i).hgt ++ [0], (lvT n i).siz ++ [1]⟩ := by
  unfold lvT
  simp only [List.replicate_succ']
theorem grow_zero (n m : Nat) : trT (bd0 n m).t n = lvT n n := by
  unfold trT bd0 lvT
  simp only [List.take_replicate, List.take_append, List.length_replicate]
  simp
theorem grow_end {n m : Nat} {s : Bd} {ls : List Nat} (h : BInv n m s m ls) : trT s.t m = s.t := by
  unfold trT
  rw [List.take_of_length_le (by rw [h.ll]; exact Nat.le_refl _), List.take_of_length_le (by rw [h.rl]; exact Nat.le_refl _), List.take_of_length_le (by rw [h.pl]; exact Nat.le_refl _), List.take_of_length_le (by rw [h.hl]; exact Nat.le_refl _), List.take_of_length_le (by rw [h.sl]; exact Nat.le_refl _)]

/-- Which of the two is the left one. -/
theorem grow_sides {l : List Ed} {n : Nat} {s : Bd} {i : Nat} :
    (s.k.getD (vN l i) 0 < s.k.getD (uN l i) 0 → s.lf l i = s.top.getD (s.k.getD (vN l i) 0) 0 ∧ s.rg l i = s.top.getD (s.k.getD (uN l i) 0) 0) ∧
    (¬ s.k.getD (vN l i) 0 < s.k.getD (uN l i) 0 → s.lf l i = s.top.getD (s.k.getD (uN l i) 0) 0 ∧ s.rg l i = s.top.getD (s.k.getD (vN l i) 0) 0) := by
  unfold Bd.lf Bd.rg Bd.lo Bd.hi
  constructor
  · intro h
    rw [Nat.min_eq_right (Nat.le_of_lt h), Nat.max_eq_left (Nat.le_of_lt h)]; exact ⟨rfl, rfl⟩
  · intro h
    rw [Nat.min_eq_left (by omega), Nat.max_eq_right (by omega)]; exact ⟨rfl, rfl⟩

end Go.Proofs.YthacjealoomioaaDoor

/- Reference of layer 17: Order. -/
namespace Go.Proofs.YthacjealoomioaaDoor
set_option linter.unusedVariables false
set_option linter.unusedSimpArgs false
open Go.RowKit

theorem owns_drewN {w : World} {B e size n : Nat} {v : Value} {xs : List Value} (h : w.ownsRow B e size v n xs) (q : Nat) : (w.drewN q).ownsRow B e size v n xs := h
theorem natV_snoc (l : List Nat) (x : Nat) : natV (l ++ [x]) = natV l ++ [.int .i64 (x : Int)] := by simp [natV]

/-- What an append of one number leaves. -/
theorem app_one {B : Nat} {wr w6 : World} {T : TypeId} {o : Obj} {v v6 : Value} {n : Nat} {xs : List Nat} {x : Nat} (hv : ∀ k, v.ownBlock = some k → B ≤ k) (hB : B ≤ wr.heap.size) (ho : w6.ownsRow 0 T 1 v6 (n + 1) (natV xs ++ [.int .i64 (x : Int)])) (hg : (wr.alloc o).grownBy w6 v.ownBlock)
    (hn : ∀ k, v6.ownBlock = some k → v.ownBlock = some k ∨ (wr.alloc o).heap.size ≤ k) : w6.ownsRow 0 T 1 v6 (n + 1) (natV (xs ++ [x])) ∧ (∀ k, v6.ownBlock = some k → B ≤ k) ∧ Below B wr w6 := by
  refine ⟨by rw [natV_snoc]; exact ho, fun k hk => ?_, ((Below.refl _ _).alloc hB o).trans (grown_below hg hv (by simp; omega))⟩
  rcases hn k hk with e | e
  · exact hv k e
  · simp at e; omega

end Go.Proofs.YthacjealoomioaaDoor

/- Reference of layer 17: joined, grown, Forest. -/
namespace Go.Proofs.YthacjealoomioaaDoor
set_option linter.unusedVariables false
set_option linter.unusedSimpArgs false
open Go.RowKit

theorem relN_take {k : List Nat} {lo hi i : Nat} (h : i < k.length) : relN (k.take (i + 1)) lo hi = relN (k.take i) lo hi ++ [if k.getD i 0 = hi then lo else k.getD i 0] := by
  rw [take_snocN h]; unfold relN; rw [List.map_append]; rfl

end Go.Proofs.YthacjealoomioaaDoor

/- Reference of layer 17: grown, Forest. -/
namespace Go.Proofs.YthacjealoomioaaDoor
set_option linter.unusedVariables false
set_option linter.unusedSimpArgs false
open Go.RowKit

theorem own_rowN {w : World} {T : TypeId} {v : Value} {n : Nat} {l : List Nat} (h : w.ownsRow 0 T 1 v n (natV l)) (hl : l.length = n) : ∃ ao cap b, v = .slice ao n cap ∧ InRow .i64 w ao n b 0 (nI l) ∧ ∀ k, v.ownBlock = some k → k = b := by
  rw [natV_nI] at h
  subst hl
  have h' : w.ownsRow 0 T 1 v (nI l).length ((nI l).map fun x => .int .i64 x) := by rw [nI_len]; exact h
  have := owns_row h'
  rw [nI_len] at this
  exact this

/-- The rows of the sets and of the forest, and the order. -/
structure GrAt (B : Nat) (W : World) (n : Nat) (l : List Ed) (s : Fo) (kv ov v7 : Value) : Prop where
  k : W.ownsRow 0 3 1 kv n (natV s.k)
  o : W.ownsRow 0 3 1 ov s.out.length (natV s.out)
  q : W.ownsRow 0 3 1 v7 l.length (natV (ordL l))
  kn : ∀ x, kv.ownBlock = some x → B ≤ x ∧ x < W.heap.size
  on : ∀ x, ov.ownBlock = some x → B ≤ x
  qn : ∀ x, v7.ownBlock = some x → x < W.heap.size
  ko : ∀ x, ov.ownBlock = some x → kv.ownBlock ≠ some x
  qo : ∀ x, ov.ownBlock = some x → v7.ownBlock ≠ some x

theorem own_lt {w : World} {T size n : Nat} {v : Value} {xs : List Value} (h : w.ownsRow 0 T size v n xs) {k : Nat} (hk : v.ownBlock = some k) : k < w.heap.size := by
  rcases h.2 with ⟨rfl, _⟩ | ⟨g, cap, cur, rfl, _, hg, _⟩
  · cases hk
  · injection hk with hk
    subst hk
    exact (Array.getElem?_eq_some_iff.1 hg).1

theorem GrAt.mod {F : Nat → Prop} {B : Nat} {W W' : World} {n : Nat} {l : List Ed} {s : Fo} {kv ov v7 : Value} (h : GrAt B W n l s kv ov v7) (m : Mod F W W') (hF : ∀ x, x < W.heap.size → ¬ F x) : GrAt B W' n l s kv ov v7 :=
  ⟨owns_mod h.k m (fun x hx => hF x (own_lt h.k hx)), owns_mod h.o m (fun x hx => hF x (own_lt h.o hx)), owns_mod h.q m (fun x hx => hF x (own_lt h.q hx)), fun x hx => ⟨(h.kn x hx).1, Nat.lt_of_lt_of_le (h.kn x hx).2 m.size⟩, h.on,
    fun x hx => Nat.lt_of_lt_of_le (h.qn x hx) m.size, h.ko, h.qo⟩

theorem GrAt.below {B : Nat} {W W' : World} {n : Nat} {l : List Ed} {s : Fo} {kv ov v7 : Value} (h : GrAt B W n l s kv ov v7) (m : Below W.heap.size W W') : GrAt B W' n l s kv ov v7 := h.mod (Mod.of_below (F := fun _ => False) m) (fun _ _ h => h)

/-- A number is appended to the forest. -/
theorem GrAt.app {B : Nat} {W W6 : World} {n : Nat} {l : List Ed} {s : Fo} {kv ov v7 v6 : Value} (h : GrAt B W n l s kv ov v7) {o : Obj} {x : Nat} (hB : B ≤ W.heap.size) (ho : W6.ownsRow 0 3 1 v6 (s.out.length + 1) (natV s.out ++ [.int .i64 (x : Int)])) (hg : (W.alloc o).grownBy W6 ov.ownBlock)
    (hn : ∀ k, v6.ownBlock = some k → ov.ownBlock = some k ∨ (W.alloc o).heap.size ≤ k) : GrAt B W6 n l ⟨s.k, s.out ++ [x]⟩ kv v6 v7 ∧ Below B W W6 ∧ Mod (fun k => ov.ownBlock = some k) W W6 := by
  obtain ⟨a1, a2, a3⟩ := app_one h.on hB ho hg hn
  have m : Mod (fun k => ov.ownBlock = some k) W W6 := ((Mod.refl (fun k => ov.ownBlock = some k) W).alloc o).grown hg (fun k hk _ => hk)
  have hz : ∀ k, v6.ownBlock = some k → ov.ownBlock = some k ∨ W.heap.size ≤ k := fun k hk => by
    rcases hn k hk with e | e
    · exact .inl e
    · simp at e; exact .inr (by omega)
  refine ⟨⟨owns_mod h.k m (fun y hy e => h.ko y e hy), by simp only [List.length_append, List.length_singleton]; exact a1, owns_mod h.q m (fun y hy e => h.qo y e hy), fun y hy => ⟨(h.kn y hy).1, Nat.lt_of_lt_of_le (h.kn y hy).2 m.size⟩, a2, fun y hy => Nat.lt_of_lt_of_le (h.qn y hy) m.size, fun y hy e => ?_, fun y hy e => ?_⟩, a3, m⟩
  · rcases hz y hy with q | q
    · exact h.ko y q e
    · have := (h.kn y e).2; omega
  · rcases hz y hy with q | q
    · exact h.qo y q e
    · have := h.qn y e; omega

/-- The labels anew. -/
theorem GrAt.lab {B : Nat} {W W6 : World} {n : Nat} {l : List Ed} {s : Fo} {kv ov v7 v6 : Value} (h : GrAt B W n l s kv ov v7) {k' : List Nat} (hB : B ≤ W.heap.size) (hr : NewRow W 3 1 n (natV k') v6 W6) : GrAt B W6 n l ⟨k', s.out⟩ v6 ov v7 :=
  ⟨hr.own, owns_mod h.o (Mod.of_below (F := fun _ => False) hr.bel) (fun _ _ h => h), owns_mod h.q (Mod.of_below (F := fun _ => False) hr.bel) (fun _ _ h => h), fun y hy => ⟨Nat.le_trans hB (hr.new y hy), own_lt hr.own hy⟩, h.on,
    fun y hy => Nat.lt_of_lt_of_le (h.qn y hy) hr.bel.size, fun y hy e => by have := hr.new y e; have := own_lt h.o hy; omega, h.qo⟩

end Go.Proofs.YthacjealoomioaaDoor
