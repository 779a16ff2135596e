/- Several texts in one: StI, SortR, StJ, MapR, StL. -/
import Derived.Test.YtlooaipipmiijaaGreatZU01
import Derived.Test.YtlooaipipmiijaaGreatZU18
import Derived.Test.YtlooaipipmiijaaGreatZU23
import Derived.Carry
import Derived.Shelf.GgSortFunc.RowK
import Derived.Shelf.GgSortFunc.InsertionK
import Derived.Sort.Grow
import Derived.Shelf.SlMaps.Clone
namespace Go.Proofs.YtlooaipipmiijaaGreat
set_option linter.unusedVariables false
set_option linter.unusedSimpArgs false
open Go.RowKit
structure StNw (w : World) (V E last : Nat) (e : Ending) (w' : World) : Prop where
  ex : ∃ b g, e = .returned (.tuple #[.pointer (some ⟨b, 0, none⟩), .int .i64 0]) ∧ StM w' b g ∧ StL g ∧ g.V = V ∧ g.E = E ∧ g.last = last ∧ g.Lv = (fun _ => False) ∧ (∀ k, g.foot b k → w.heap.size ≤ k) ∧ w.heap.size ≤ b
  bel : Below w.heap.size w w'
theorem st_fresh {w w1 w2 : World} {V E last ab tb : Nat} (hV : V ≤ 4096) (hE : E ≤ 16384) (hao : ArO w1 ab E 0 (fun _ => False) (fun k => w.heap.size ≤ k)) (hb1 : Below w.heap.size w w1) (hio : InO w2 tb V (fun _ => False) (fun _ => 0) (fun k => w1.heap.size ≤ k)) (hb2 : Below w1.heap.size w1 w2) :
    StNw w V E last (.returned (.tuple #[.pointer (some ⟨w2.heap.size + 1, 0, none⟩), .int .i64 0])) ((w2.alloc (.map #[] 0)).alloc (.cells #[.int .i64 (V : Int), .int .i64 (E : Int), .int .u64 (last : Int), .pointer (some ⟨ab, 0, none⟩), .pointer (some ⟨tb, 0, none⟩), .slice none 0 0, .map (some w2.heap.size)] 123)) := by
  have s1 := hb1.size
  have s2 := hb2.size
  have hbl : Below w2.heap.size w2 ((w2.alloc (.map #[] 0)).alloc (.cells #[.int .i64 (V : Int), .int .i64 (E : Int), .int .u64 (last : Int), .pointer (some ⟨ab, 0, none⟩), .pointer (some ⟨tb, 0, none⟩), .slice none 0 0, .map (some w2.heap.size)] 123)) := ((Below.refl _ _).alloc (Nat.le_refl _) _).alloc (by simp) _
  have hbk : Blk ((w2.alloc (.map #[] 0)).alloc (.cells #[.int .i64 (V : Int), .int .i64 (E : Int), .int .u64 (last : Int), .pointer (some ⟨ab, 0, none⟩), .pointer (some ⟨tb, 0, none⟩), .slice none 0 0, .map (some w2.heap.size)] 123)) (w2.heap.size + 1) 123 [.int .i64 (V : Int), .int .i64 (E : Int), .int .u64 (last : Int), .pointer (some ⟨ab, 0, none⟩), .pointer (some ⟨tb, 0, none⟩), .slice none 0 0, .map (some w2.heap.size)] := Blk.new' _ _ [_, _, _, _, _, _, _] (by simp)
  have hmk : MapK .u64 ((w2.alloc (.map #[] 0)).alloc (.cells #[.int .i64 (V : Int), .int .i64 (E : Int), .int .u64 (last : Int), .pointer (some ⟨ab, 0, none⟩), .pointer (some ⟨tb, 0, none⟩), .slice none 0 0, .map (some w2.heap.size)] 123)) Tryz.prog 25 w2.heap.size 0 (fun _ => none) := (MapK.made .u64 w2 Tryz.prog 25).below (bel_alloc _ _) (by simp)
  obtain ⟨g, hg⟩ : ∃ g : SG, g = ⟨V, E, last, ab, 0, fun _ => False, fun k => w.heap.size ≤ k ∧ k < w1.heap.size, tb, fun _ => False, fun _ => 0, fun k => w1.heap.size ≤ k ∧ k < w2.heap.size, .slice none 0 0, 0, fun _ => lr0, w2.heap.size, fun _ => False, fun _ => [], fun _ => 0, fun _ => 0, 0, fun k => if k = w2.heap.size + 1 then 0 else if k = w2.heap.size then 4 else if k < w1.heap.size then 1 else 2⟩ := ⟨_, rfl⟩
  have hfm : ∀ i, g.fm i = none := fun i => by
    unfold SG.fm
    rw [if_neg (fun e => by rw [hg] at e; exact e.2)]
  refine ⟨⟨w2.heap.size + 1, g, rfl, ?_, ?_, by rw [hg], by rw [hg], by rw [hg], by rw [hg], ?_, by omega⟩, ((hb1.trans (hb2.mono s1)).trans (hbl.mono (by omega)))⟩
  · refine ⟨by rw [hg]; exact hbk, ?_, ?_, by rw [hg]; exact World.ownsRow_nil _ _ _ _, ?_, fun id h => by rw [hg] at h; exact h.elim, by rw [hg]; exact if_pos rfl, fun k h => ?_, fun k h => ?_, fun k h => by rw [hg] at h; simp [Value.ownBlock] at h, by rw [hg]; show (if w2.heap.size = w2.heap.size + 1 then 0 else if w2.heap.size = w2.heap.size then 4 else _) = 4; rw [if_neg (by omega), if_pos rfl], fun id h => by rw [hg] at h; exact h.elim⟩
    · rw [hg]; exact (hao.tight.below hb2).below hbl
    · rw [hg]; exact hio.tight.below hbl
    · have e : g.fm = fun _ => none := funext hfm
      rw [e, hg]; exact hmk
    · rw [hg] at h ⊢
      have h' : w.heap.size ≤ k ∧ k < w1.heap.size := h
      show (if k = w2.heap.size + 1 then 0 else if k = w2.heap.size then 4 else if k < w1.heap.size then 1 else 2) = 1
      rw [if_neg (by omega), if_neg (by omega), if_pos (by omega)]
    · rw [hg] at h ⊢
      have h' : w1.heap.size ≤ k ∧ k < w2.heap.size := h
      show (if k = w2.heap.size + 1 then 0 else if k = w2.heap.size then 4 else if k < w1.heap.size then 1 else 2) = 2
      rw [if_neg (by omega), if_neg (by omega), if_neg (by omega)]
  · have hc0 : cntP (fun _ : Nat => False) V = 0 := cntP_none V (fun _ _ h => h)
    rw [hg]
    exact ⟨⟨fun id => ⟨fun h => h.elim, fun ⟨s, h, _⟩ => h.elim⟩, fun id => ⟨fun h => h.elim, fun ⟨i, h, _⟩ => h.elim⟩, fun id h => h.elim, fun id h => h.elim, hc0.symm, fun i h => h.elim, fun i j h => h.elim⟩, fun s h => h.elim, fun s t h => h.elim, fun s h => h.elim, fun s h => h.elim, Nat.zero_le _, ⟨by show V ≤ _; omega, by show E ≤ _; omega⟩⟩
  · intro k hk
    rw [hg] at hk
    rcases hk with e | e | e | e | e | ⟨id, h, _⟩
    · omega
    · have e' : w.heap.size ≤ k ∧ k < w1.heap.size := e
      exact e'.1
    · have e' : w1.heap.size ≤ k ∧ k < w2.heap.size := e
      omega
    · simp [Value.ownBlock] at e
    · have e' : k = w2.heap.size := e
      omega
    · exact h.elim
set_option maxHeartbeats 4000000 in
set_option maxRecDepth 100000 in
theorem st_from (w : World) (V E last : Nat) (hV : V ≤ 4096) (hE : E ≤ 16384) (hl : last ≤ 9223372036854775807) :
    Calls Tryz.prog 41 #[.int .i64 (V : Int), .int .i64 (E : Int), .int .u64 (last : Int)] w (StNw w V E last) := by
  have HAN := Lib.hid (ar_new w E (by omega))
  have t1 : decide ((V : Int) < 0) = false := decide_eq_false (by omega)
  have t2 : decide ((4096 : Int) < (V : Int)) = false := decide_eq_false (by omega)
  have t3 : decide ((E : Int) < 0) = false := decide_eq_false (by omega)
  have t4 : decide ((16384 : Int) < (E : Int)) = false := decide_eq_false (by omega)
  have t5 : decide ((9223372036854775807 : Int) < (last : Int)) = false := decide_eq_false (by omega)
  have u2 : decide (4096 < V) = false := decide_eq_false (by omega)
  have u4 : decide (16384 < E) = false := decide_eq_false (by omega)
  have u5 : decide (9223372036854775807 < last) = false := decide_eq_false (by omega)
  have hmm := @run_makeMap Tryz.prog
  go_enter Tryz.func41, Tryz.ntmps41
  go_upto_region 6 with (go_at_call 79; refine HAN.out.mono ?_; rintro e w1 ⟨⟨ab, rfl, hao, hnab⟩, hb1⟩; have HAO := Lib.hid hao; have HNAB := Lib.hid hnab; have HB1 := Lib.hid hb1; clear hao hnab hb1)
  clear t1 t2 t3 t4 t5 u2 u4 u5
  have HIN := Lib.hid (in_new w1 V (by omega))
  go_upto_region 9 with (go_at_call 80; refine HIN.out.mono ?_; rintro e w2 ⟨⟨tb, rfl, hio, hntb⟩, hb2⟩; have HIO := Lib.hid hio; have HNTB := Lib.hid hntb; have HB2 := Lib.hid hb2; clear hio hntb hb2)
  clear HIN HAN
  have HFIN := Lib.hid (st_fresh (last := last) hV hE HAO.out HB1.out HIO.out HB2.out)
  go_wp2_with fail
  go_ret2
  exact HFIN.out
end Go.Proofs.YtlooaipipmiijaaGreat

namespace Go.Proofs.YtlooaipipmiijaaGreat
set_option linter.unusedVariables false
set_option linter.unusedSimpArgs false
open Go.RowKit Go.Sort
def encs {α : Type} (enc : α → List Value) (l : List α) : List Value := l.flatMap enc
end Go.Proofs.YtlooaipipmiijaaGreat

namespace Go.Proofs.YtlooaipipmiijaaGreat
set_option linter.unusedVariables false
set_option linter.unusedSimpArgs false
open Go.RowKit Go.Shelf Go.Lib Go.Sort
theorem Tryz.isAgg63J (w : World) : (isAgg 63).run Tryz.prog w = .ok true w := by kernel_rfl
theorem Tryz.sizeOf63J (w : World) : (Go.sizeOf 63).run Tryz.prog w = .ok 7 w := by kernel_rfl
end Go.Proofs.YtlooaipipmiijaaGreat

namespace Go.Proofs.YtlooaipipmiijaaGreat
set_option linter.unusedVariables false
set_option linter.unusedSimpArgs false
open Go.RowKit Go.Shelf
open Go.Maps (Keyed)
def RgK (q : IntKind) (w : World) (P : Program) (k : TypeId) (b r c : Nat) (F : Int → Option Value) (left : Int → Bool) (cnt : Nat) : Prop :=
  ∃ (D : DataW Value) (L : Lit → Bool), w.ranges P k mapRK b r c D L cnt ∧ Maps.size D = c ∧ (∀ i : Int, L (.int q i) = left i) ∧ (∀ i : Int, Maps.has D (.int q i) = (F i).isSome ∧ ∀ z, D.atKey (.int q i) (.held z) = .held ((F i).getD z)) ∧ ∀ i, left i = true → (F i).isSome = true
section
variable {q : IntKind} {w w' : World} {P : Program} {k t e : TypeId} {b r c : Nat} {F : Int → Option Value} {left : Int → Bool} {cnt : Nat}
theorem RgK.map (h : RgK q w P k b r c F left cnt) : MapK q w P k b c F := by
  obtain ⟨D, L, h1, h2, h3, h4, h5⟩ := h
  exact ⟨D, h1.owns, h2, h4⟩
theorem RgK.ne (h : RgK q w P k b r c F left cnt) : r ≠ b := by
  obtain ⟨D, L, h1, _⟩ := h
  exact h1.ne
theorem RgK.lt (h : RgK q w P k b r c F left cnt) : r < w.heap.size := by
  obtain ⟨D, L, h1, _⟩ := h
  exact h1.lt
theorem RgK.left_eq (h : RgK q w P k b r c F left cnt) : w.rangeLeft b r = cnt := by
  obtain ⟨D, L, h1, _⟩ := h
  exact h1.left_eq
theorem RgK.heap (h : RgK q w P k b r c F left cnt) (e1 : w'.heap[b]? = w.heap[b]?) (e2 : w'.heap[r]? = w.heap[r]?) : RgK q w' P k b r c F left cnt := by
  obtain ⟨D, L, ⟨es, clock, since, seen, c0, hb, F, hs, hD, hr, rest⟩, h2⟩ := h
  exact ⟨D, L, ⟨es, clock, since, seen, c0, e1.trans hb, F, hs, hD, e2.trans hr, rest⟩, h2⟩
theorem RgK.mod {G : Nat → Prop} (h : RgK q w P k b r c F left cnt) (m : Mod G w w') (h1 : ¬ G b) (h2 : ¬ G r) : RgK q w' P k b r c F left cnt :=
  h.heap (m.block b h.map.lt h1) (m.block r h.lt h2)
theorem RgK.below (h : RgK q w P k b r c F left cnt) (m : Below w.heap.size w w') : RgK q w' P k b r c F left cnt :=
  h.heap (m.block b h.map.lt) (m.block r h.lt)
theorem wpList_rangeK {ops : Array Oper} {rest : List Oper} {o : Oper} {a : Act} {Q : Exit → Act → World → Prop}
    (hg : o.guard = none) (m : Operand) (hop : o.op = Op.range t m) (hk : P.underlying k = some (.int q)) (ht : P.underlying t = some (.map k e)) (hm : a.eval m = .map (some b)) (h : MapK q w P k b c F)
    (hK : ∀ w', RgK q w' P k b w.heap.size c F (fun i => (F i).isSome) c → Below w.heap.size w w' → wpList P ops Q rest (a.put o.dst (.pointer (some ⟨w.heap.size, 0, none⟩))) w') :
    wpList P ops Q (o :: rest) a w := by
  obtain ⟨D, h1, h2, h3⟩ := h
  refine wpList_range_own w hg m t hop k e (Maps.int_keyed hk) ht mapRK b c D hm h1 ?_
  intro w' r1 r2 r3
  rw [h2] at r1
  exact hK w' ⟨D, _, r1, h2, fun i => (h3 i).1, h3, fun i hi => hi⟩ ⟨r2.os, r2.tape, r2.output, r2.size, fun i hi => r2.block i hi (by simp)⟩
theorem wpList_nextK {ops : Array Oper} {rest : List Oper} {o : Oper} {a : Act} {Q : Exit → Act → World → Prop}
    (hg : o.guard = none) (it : Operand) (hop : o.op = Op.next it false) (hk : P.underlying k = some (.int q)) (hit : a.eval it = .pointer (some ⟨r, 0, none⟩)) (h : RgK q w P k b r c F left cnt)
    (hDone : cnt = 0 → (∀ i, left i = false) → wpList P ops Q rest (a.put o.dst (.tuple #[.bool false])) w)
    (hMore : ∀ (x : Int) (v : Value) (w' : World) (cnt' : Nat), (Lit.int q x).wf = true → left x = true → F x = some v → RgK q w' P k b r c F (fun i => left i && !decide (i = x)) cnt' → cnt' < cnt →
      Mod (fun y => y = r) w w' → w'.heap.size = w.heap.size → (Instr.entry (.pointer (some ⟨r, 0, none⟩))).run P w' = .ok (.tuple #[.int q x, v]) w' → wpList P ops Q rest (a.put o.dst (.tuple #[.bool true, .int q x, v])) w') :
    wpList P ops Q (o :: rest) a w := by
  obtain ⟨D, L, h1, h2, h3, h4, h5⟩ := h
  refine wpList_next_ranges w hg it hop k (Maps.int_keyed hk) mapRK (Value.int q) (fun v : Value => v) (fun key kl hkey => by obtain ⟨x, rfl, _⟩ := Maps.keyOf_int_inv hk hkey; exact ⟨x, rfl⟩) (fun v y hv => ⟨v, rfl⟩) b r c D L cnt hit h1 (fun hc hl => hDone hc fun i => (h3 i).symm.trans (hl _)) ?_
  intro x v kl y w' cnt' hkey hlk hv hat hrg hlt hgr hsz hen
  obtain ⟨x', ex, rfl, hwx⟩ := Maps.keyOf_int_inv hk hkey
  cases ex
  cases hv
  have hl : left x = true := (h3 x).symm.trans hlk
  obtain ⟨v0, hv0⟩ := Option.isSome_iff_exists.1 (h5 x hl)
  have hvv : v = v0 := by
    have e1 := (h4 x).2 undef
    rw [hat, hv0] at e1
    injection e1
  subst hvv
  refine hMore x v w' cnt' hwx hl hv0 ⟨D, _, hrg, h2, fun i => ?_, h4, fun i hi => h5 i ?_⟩ hlt ((Mod.refl _ w).grown hgr (fun y hy _ => by injection hy with hy; exact hy.symm)) hsz hen
  · show (L (.int q i) && !(Lit.int q i).sameKey (.int q x)) = (left i && !decide (i = x))
    rw [h3]
    by_cases e : i = x
    · subst e
      rw [WideAt.sameKey_self (show WideAt.IsKeyLit (Lit.int q i) from trivial), decide_eq_true rfl]
    · rw [Maps.sameKey_ne (fun e1 => e (by injection e1)), decide_eq_false e]
  · exact (Bool.and_eq_true_iff.1 hi).1
end
structure ClM (q : IntKind) (w : World) (P : Program) (k : TypeId) (c : Nat) (F : Int → Option Value) (e : Ending) (w' : World) : Prop where
  ret : e = .returned (.map (some w.heap.size))
  map : MapK q w' P k w.heap.size c F
  bel : Below w.heap.size w w'
theorem clone_inc {w : World} {b c : Nat} {F : Int → Option Value} (h : MapK .u64 w Tryz.prog 25 b c F) : Calls Tryz.prog 68 #[.map (some b)] w (ClM .u64 w Tryz.prog 25 c F) := by
  obtain ⟨D, h1, h2, h3⟩ := h
  have hcon := AnyW.maps_Clone_owns Tryz.cloneInc 25 mapRK b c D w h1
  change Calls Tryz.prog 68 _ _ _ at hcon
  refine hcon.mono ?_
  rintro e w' ⟨rfl, k1, _, kB⟩
  exact ⟨rfl, ⟨D, k1, h2, h3⟩, kB⟩
theorem clone_edg {w : World} {b c : Nat} {F : Int → Option Value} (h : MapK .i64 w Tryz.prog 3 b c F) : Calls Tryz.prog 72 #[.map (some b)] w (ClM .i64 w Tryz.prog 3 c F) := by
  obtain ⟨D, h1, h2, h3⟩ := h
  have hcon := AnyW.maps_Clone_owns Tryz.cloneEdg 3 mapRK b c D w h1
  change Calls Tryz.prog 72 _ _ _ at hcon
  refine hcon.mono ?_
  rintro e w' ⟨rfl, k1, _, kB⟩
  exact ⟨rfl, ⟨D, k1, h2, h3⟩, kB⟩
end Go.Proofs.YtlooaipipmiijaaGreat

namespace Go.Proofs.YtlooaipipmiijaaGreat
set_option linter.unusedVariables false
set_option linter.unusedSimpArgs false
open Go.RowKit
structure CpS (w W : World) (c : Nat) (vs : List Value) : Prop where
  box : Blk W c 123 vs
  bel : Below w.heap.size w W
  cc : w.heap.size ≤ c
theorem CpS.up {w W W1 : World} {c : Nat} {vs : List Value} (h : CpS w W c vs) (hb : Below W.heap.size W W1) : CpS w W1 c vs :=
  ⟨h.box.below hb h.box.lt, bel_next h.bel hb, h.cc⟩
theorem CpS.set {w W : World} {c : Nat} {vs : List Value} (h : CpS w W c vs) (j : Nat) (v : Value) : CpS w (W.setCell ⟨c, j, none⟩ v) c (vs.set j v) :=
  ⟨h.box.set j v, h.bel.setCell h.cc v, h.cc⟩
theorem CpS.mod {w W : World} {c : Nat} {vs : List Value} (h : CpS w W c vs) (j : Nat) (v : Value) : Mod (fun x => x = c) W (W.setCell ⟨c, j, none⟩ v) := (Mod.refl (fun x => x = c) W).setCell ⟨c, j, none⟩ (fun _ => rfl) v
theorem CpS.new {w : World} {vs : List Value} : CpS w (w.alloc (.cells vs.toArray 123)) w.heap.size vs := ⟨Blk.new w _ vs, bel_alloc w _, Nat.le_refl _⟩
def SG.lists (g : SG) (gb gc : Nat → Nat) : SG := { g with gb := gb, gc := gc }
theorem SG.lists_fm (g : SG) (gb gc : Nat → Nat) (i : Int) : ((g.lists gb gc).fm i).isSome = (g.fm i).isSome := by
  unfold SG.fm SG.lists
  by_cases c : 0 ≤ i ∧ g.KI i.toNat
  · rw [if_pos c, if_pos c]; rfl
  · rw [if_neg c, if_neg c]
structure CpL (w : World) (g : SG) (c ca ta nm h1 h2 h3 r : Nat) (la : Value) (gb gc : Nat → Nat) (left : Int → Bool) (W : World) : Prop where
  box : Blk W c 123 [.int .i64 (g.V : Int), .int .i64 (g.E : Int), .int .u64 (g.last : Int), .pointer (some ⟨ca, 0, none⟩), .pointer (some ⟨ta, 0, none⟩), la, .map (some nm)]
  ar : ArO W ca g.E g.beg g.Lv (fun k => c < k ∧ k < h1)
  tb : InO W ta g.V g.LvT g.D (fun k => h1 ≤ k ∧ k < h2)
  row : W.ownsRow 0 63 7 la g.nl (lrRow g.nl g.R)
  rowb : ∀ k, la.ownBlock = some k → h2 ≤ k ∧ k < h3
  ord : c < h1 ∧ h1 ≤ h2 ∧ h2 ≤ h3 ∧ h3 ≤ nm ∧ nm < r ∧ r < W.heap.size
  map : MapK .u64 W Tryz.prog 25 nm g.c (fun i => if left i then g.fm i else (g.lists gb gc).fm i)
  rows : ∀ id, g.KI id → left (id : Int) = false → W.ownsRow 0 3 1 (.slice (some ⟨gb id, 0, none⟩) (g.inc id).length (gc id)) (g.inc id).length (natV64 (g.inc id)) ∧ r < gb id
  inj : ∀ id id', g.KI id → g.KI id' → left (id : Int) = false → left (id' : Int) = false → gb id = gb id' → id = id'
  bel : Below w.heap.size w W
  cc : w.heap.size ≤ c
theorem CpL.turn {w W W' : World} {g : SG} {c ca ta nm h1 h2 h3 r : Nat} {la : Value} {gb gc : Nat → Nat} {left : Int → Bool} (h : CpL w g c ca ta nm h1 h2 h3 r la gb gc left W) (m : Mod (fun y => y = r) W W') (hs : W'.heap.size = W.heap.size) : CpL w g c ca ta nm h1 h2 h3 r la gb gc left W' := by
  obtain ⟨o1, o2, o3, o4, o5, o6⟩ := h.ord
  refine ⟨h.box.mod m (by omega), h.ar.mod m (fun k hk => by omega), h.tb.mod m (fun k hk => by omega), owns_modL h.row m (fun k e => by have := h.rowb k e; omega), h.rowb, ⟨o1, o2, o3, o4, o5, by omega⟩, h.map.mod m (by omega), fun id hk hl => ?_, h.inj, bel_mod h.bel m (fun x e => by have := h.cc; omega), h.cc⟩
  obtain ⟨r1, r2⟩ := h.rows id hk hl
  exact ⟨owns_modL r1 m (fun k e => by injection e with e; have e' : gb id = k := e; omega), r2⟩
theorem CpL.below {w W W' : World} {g : SG} {c ca ta nm h1 h2 h3 r : Nat} {la : Value} {gb gc : Nat → Nat} {left : Int → Bool} (h : CpL w g c ca ta nm h1 h2 h3 r la gb gc left W) (m : Below W.heap.size W W') : CpL w g c ca ta nm h1 h2 h3 r la gb gc left W' := by
  obtain ⟨o1, o2, o3, o4, o5, o6⟩ := h.ord
  exact ⟨h.box.below m h.box.lt, h.ar.below m, h.tb.below m, owns_same h.row (fun k e => m.block k (h.row.lt k e).2), h.rowb, ⟨o1, o2, o3, o4, o5, Nat.lt_of_lt_of_le o6 m.size⟩, h.map.below m h.map.lt, fun id hk hl => ⟨owns_same (h.rows id hk hl).1 (fun k e => m.block k ((h.rows id hk hl).1.lt k e).2), (h.rows id hk hl).2⟩, h.inj, bel_next h.bel m, h.cc⟩
theorem CpL.round {w W W1 W2 : World} {g : SG} {c ca ta nm h1 h2 h3 r q cap : Nat} {la : Value} {gb gc : Nat → Nat} {left : Int → Bool} (h : CpL w g c ca ta nm h1 h2 h3 r la gb gc left W) {id : Nat} (hk : g.KI id) (hl : left (id : Int) = true)
    (hn : NewRow W 3 1 (g.inc id).length (natV64 (g.inc id)) (.slice (some ⟨q, 0, none⟩) (g.inc id).length cap) W1)
    (hm : MapK .u64 W2 Tryz.prog 25 nm g.c (fun j => if j = (id : Int) then some (.slice (some ⟨q, 0, none⟩) (g.inc id).length cap) else if left j then g.fm j else (g.lists gb gc).fm j)) (m : Mod (fun x => x = nm) W1 W2) :
    CpL w g c ca ta nm h1 h2 h3 r la (upF gb id q) (upF gc id cap) (fun i => left i && !decide (i = (id : Int))) W2 := by
  have h' := h.below hn.bel
  obtain ⟨o1, o2, o3, o4, o5, o6⟩ := h.ord
  have hq : W.heap.size ≤ q := hn.new q rfl
  have hs1 := hn.bel.size
  have lf : ∀ x : Nat, (left (x : Int) && !decide ((x : Int) = (id : Int))) = false → x = id ∨ (x ≠ id ∧ left (x : Int) = false) := fun x e => by
    by_cases d : x = id
    · exact .inl d
    · refine .inr ⟨d, ?_⟩
      rw [decide_eq_false (by omega), Bool.not_false, Bool.and_true] at e
      exact e
  refine ⟨h'.box.mod m (by omega), h'.ar.mod m (fun k hk => by omega), h'.tb.mod m (fun k hk => by omega), owns_modL h'.row m (fun k e => by have := h.rowb k e; omega), h.rowb, ⟨o1, o2, o3, o4, o5, by have := m.size; omega⟩, hm.congr fun i => ?_, fun x hx e => ?_, fun x y hx hy ex ey e => ?_, bel_mod h'.bel m (fun x e => by have := h.cc; omega), h.cc⟩
  · by_cases d : i = (id : Int)
    · subst d
      rw [if_pos rfl, decide_eq_true rfl, Bool.not_true, Bool.and_false, if_neg (by simp), SG.fm_yes (g := g.lists (upF gb id q) (upF gc id cap)) hk]
      unfold SG.val SG.lists
      show _ = some (Value.slice (some ⟨upF gb id q id, 0, none⟩) (g.inc id).length (upF gc id cap id))
      rw [uF_same, uF_same]
    · rw [if_neg d, decide_eq_false d, Bool.not_false, Bool.and_true]
      by_cases f : left i = true
      · rw [if_pos f, if_pos f]
      · rw [if_neg f, if_neg f]
        unfold SG.fm
        by_cases k : 0 ≤ i ∧ g.KI i.toNat
        · rw [if_pos (show 0 ≤ i ∧ (g.lists (upF gb id q) (upF gc id cap)).KI i.toNat from k), if_pos (show 0 ≤ i ∧ (g.lists gb gc).KI i.toNat from k)]
          unfold SG.val SG.lists
          show some (Value.slice (some ⟨gb i.toNat, 0, none⟩) _ (gc i.toNat)) = some (Value.slice (some ⟨upF gb id q i.toNat, 0, none⟩) _ (upF gc id cap i.toNat))
          rw [uF_ne _ _ (by omega), uF_ne _ _ (by omega)]
        · rw [if_neg (show ¬ (0 ≤ i ∧ (g.lists (upF gb id q) (upF gc id cap)).KI i.toNat) from k), if_neg (show ¬ (0 ≤ i ∧ (g.lists gb gc).KI i.toNat) from k)]
  · rcases lf x e with rfl | ⟨d, e'⟩
    · rw [uF_same, uF_same]
      exact ⟨owns_modL hn.own m (fun k e => by injection e with e; have e' : q = k := e; omega), by omega⟩
    · rw [uF_ne _ _ d, uF_ne _ _ d]
      obtain ⟨r1, r2⟩ := h'.rows x hx e'
      exact ⟨owns_modL r1 m (fun k e => by injection e with e; have e' : gb x = k := e; omega), r2⟩
  · rcases lf x ex with rfl | ⟨dx, ex'⟩
    · rcases lf y ey with rfl | ⟨dy, ey'⟩
      · rfl
      · rw [uF_same, uF_ne _ _ dy] at e
        have := ((h.rows y hy ey').1.lt (gb y) rfl).2
        omega
    · rcases lf y ey with rfl | ⟨dy, ey'⟩
      · rw [uF_same, uF_ne _ _ dx] at e
        have := ((h.rows x hx ex').1.lt (gb x) rfl).2
        omega
      · rw [uF_ne _ _ dx, uF_ne _ _ dy] at e
        exact h.inj x y hx hy ex' ey' e
structure StCy (w : World) (g : SG) (e : Ending) (w' : World) : Prop where
  ex : ∃ c g', e = .returned (.pointer (some ⟨c, 0, none⟩)) ∧ StM w' c g' ∧ StL g' ∧ g'.V = g.V ∧ g'.E = g.E ∧ g'.last = g.last ∧ g'.Lv = g.Lv ∧ g'.R = g.R ∧ g'.LvT = g.LvT ∧ g'.D = g.D ∧ g'.KI = g.KI ∧ g'.inc = g.inc ∧ (∀ k, g'.foot c k → w.heap.size ≤ k) ∧ w.heap.size ≤ c
  bel : Below w.heap.size w w'
theorem CpL.done {w W : World} {g : SG} {c ca ta nm h1 h2 h3 r : Nat} {la : Value} {gb gc : Nat → Nat} {left : Int → Bool} (h : CpL w g c ca ta nm h1 h2 h3 r la gb gc left W) (hl : ∀ i, left i = false) (hg : StL g) : StCy w g (.returned (.pointer (some ⟨c, 0, none⟩))) W := by
  classical
  obtain ⟨o1, o2, o3, o4, o5, o6⟩ := h.ord
  have hcc := h.cc
  obtain ⟨g', hg'⟩ : ∃ g' : SG, g' = ⟨g.V, g.E, g.last, ca, g.beg, g.Lv, fun k => c < k ∧ k < h1, ta, g.LvT, g.D, fun k => h1 ≤ k ∧ k < h2, la, g.nl, g.R, nm, g.KI, g.inc, gb, gc, g.c, fun k => if k = c then 0 else if k < h1 then 1 else if k < h2 then 2 else if k < h3 then 3 else if k = nm then 4 else if d : ∃ id, g.KI id ∧ gb id = k then 5 + d.choose else 0⟩ := ⟨_, rfl⟩
  have hfm : g'.fm = (g.lists gb gc).fm := by rw [hg']; rfl
  refine ⟨⟨c, g', rfl, ?_, ?_, by rw [hg'], by rw [hg'], by rw [hg'], by rw [hg'], by rw [hg'], by rw [hg'], by rw [hg'], by rw [hg'], by rw [hg'], ?_, hcc⟩, h.bel⟩
  · refine ⟨by rw [hg']; exact h.box, by rw [hg']; exact h.ar, by rw [hg']; exact h.tb, by rw [hg']; exact h.row, ?_, ?_, by rw [hg']; exact if_pos rfl, ?_, ?_, ?_, ?_, ?_⟩
    · have hm := h.map.congr (G := g'.fm) fun i => by rw [hl i, if_neg (by simp), hfm]
      rw [hg'] at hm ⊢; exact hm
    · rw [hg']
      intro id hk
      exact (h.rows id hk (hl _)).1
    · rw [hg']
      intro k hk
      have hk' : c < k ∧ k < h1 := hk
      show (if k = c then 0 else if k < h1 then 1 else _) = 1
      rw [if_neg (by omega), if_pos (by omega)]
    · rw [hg']
      intro k hk
      have hk' : h1 ≤ k ∧ k < h2 := hk
      show (if k = c then 0 else if k < h1 then 1 else if k < h2 then 2 else _) = 2
      rw [if_neg (by omega), if_neg (by omega), if_pos (by omega)]
    · rw [hg']
      intro k hk
      have hk' := h.rowb k hk
      show (if k = c then 0 else if k < h1 then 1 else if k < h2 then 2 else if k < h3 then 3 else _) = 3
      rw [if_neg (by omega), if_neg (by omega), if_neg (by omega), if_pos (by omega)]
    · rw [hg']
      show (if nm = c then 0 else if nm < h1 then 1 else if nm < h2 then 2 else if nm < h3 then 3 else if nm = nm then 4 else _) = 4
      rw [if_neg (by omega), if_neg (by omega), if_neg (by omega), if_neg (by omega), if_pos rfl]
    · rw [hg']
      intro id hk
      have hk' := (h.rows id hk (hl _)).2
      have hd : ∃ x, g.KI x ∧ gb x = gb id := ⟨id, hk, rfl⟩
      show (if gb id = c then 0 else if gb id < h1 then 1 else if gb id < h2 then 2 else if gb id < h3 then 3 else if gb id = nm then 4 else if d : ∃ x, g.KI x ∧ gb x = gb id then 5 + d.choose else 0) = 5 + id
      rw [if_neg (by omega), if_neg (by omega), if_neg (by omega), if_neg (by omega), if_neg (by omega), dif_pos hd, h.inj hd.choose id hd.choose_spec.1 hk (hl _) (hl _) hd.choose_spec.2]
  · rw [hg']
    exact ⟨hg.ids.congr rfl rfl rfl rfl rfl rfl, hg.own, hg.seq, hg.lvn, hg.lvE, hg.nl, hg.szs⟩
  · rw [hg']
    rintro k (e | e | e | e | e | ⟨id, hk, e⟩)
    · omega
    · have e' : c < k ∧ k < h1 := e
      omega
    · have e' : h1 ≤ k ∧ k < h2 := e
      omega
    · have := h.rowb k e; omega
    · have e' : k = nm := e
      omega
    · have := (h.rows id hk (hl _)).2
      have e' : gb id = k := e
      omega
end Go.Proofs.YtlooaipipmiijaaGreat
