/- Several texts in one: InA, Range, RangeR, RoundT, InB. -/
import Derived.Test.YtlooaipipmiijaaGreatZX01
import Derived.Test.YtlooaipipmiijaaGreatZX04
import Derived.Test.YtlooaipipmiijaaGreatZX05
import Derived.Test.YtlooaipipmiijaaGreatZX10
import Derived.Laws.Bits64
import Derived.Laws.Bits64b
import Derived.Laws.BitsLemmas
import Derived.Laws.Closers25b
import Derived.IntWalk
import Derived.RangeFuncNested
import Derived.RangeFuncBound
import Derived.RangeFuncCalls
import Derived.RangeFuncLeaves
import Derived.Shelf.Abstract
import Derived.OwnWalkIn
import Derived.TacticsInMore
import Derived.LoopNIn
import Derived.LoopIn
namespace Go.Proofs.YtlooaipipmiijaaGreat
set_option linter.unusedVariables false
set_option linter.unusedSimpArgs false
open Go.RowKit
def cRow (n : Nat) (C : Nat → Nat) : List Value := (List.range n).map fun c => .int .i64 (C c : Int)
theorem cRow_len (n : Nat) (C : Nat → Nat) : (cRow n C).length = n := by unfold cRow; rw [List.length_map, List.length_range]
theorem cRow_get {n : Nat} {C : Nat → Nat} {c : Nat} (h : c < n) : (cRow n C)[c]? = some (.int .i64 (C c : Int)) := by
  unfold cRow; rw [List.getElem?_map, List.getElem?_range h]; rfl
theorem cRow_set {n : Nat} {C : Nat → Nat} {c v : Nat} : (cRow n C).set c (.int .i64 (v : Int)) = cRow n (upC C c v) := by
  apply List.ext_getElem?
  intro q
  rw [List.getElem?_set, cRow_len]
  by_cases hq : q < n
  · rw [cRow_get hq, cRow_get hq]
    by_cases e : c = q
    · subst e; rw [if_pos rfl, if_pos hq, uC_same]
    · rw [if_neg e, uC_ne _ _ (fun h => e h.symm)]
  · rw [List.getElem?_eq_none (by rw [cRow_len]; omega), List.getElem?_eq_none (by rw [cRow_len]; omega)]
    by_cases e : c = q
    · subst e; rw [if_pos rfl, if_neg hq]
    · rw [if_neg e]
def idRow (L : Nat) (D : Nat → Nat) : List Value := (List.range L).map fun i => .int .u64 (D i : Int)
theorem idRow_len (L : Nat) (D : Nat → Nat) : (idRow L D).length = L := by unfold idRow; rw [List.length_map, List.length_range]
theorem idRow_get {L : Nat} {D : Nat → Nat} {i : Nat} (h : i < L) : (idRow L D)[i]? = some (.int .u64 (D i : Int)) := by
  unfold idRow; rw [List.getElem?_map, List.getElem?_range h]; rfl
theorem idRow_set {L : Nat} {D : Nat → Nat} {i v : Nat} : (idRow L D).set i (.int .u64 (v : Int)) = idRow L (upC D i v) := by
  apply List.ext_getElem?
  intro q
  rw [List.getElem?_set, idRow_len]
  by_cases hq : q < L
  · rw [idRow_get hq, idRow_get hq]
    by_cases e : i = q
    · subst e; rw [if_pos rfl, if_pos hq, uC_same]
    · rw [if_neg e, uC_ne _ _ (fun h => e h.symm)]
  · rw [List.getElem?_eq_none (by rw [idRow_len]; omega), List.getElem?_eq_none (by rw [idRow_len]; omega)]
    by_cases e : i = q
    · subst e; rw [if_pos rfl, if_neg hq]
    · rw [if_neg e]
theorem idRow_snoc (L : Nat) (D : Nat → Nat) (v : Nat) : idRow L D ++ [.int .u64 (v : Int)] = idRow (L + 1) (upC D L v) := by
  unfold idRow
  rw [List.range_succ, List.map_append]
  congr 1
  · refine List.map_congr_left fun i hi => ?_
    rw [List.mem_range] at hi
    rw [uC_ne _ _ (by omega)]
  · rw [List.map_cons, List.map_nil, uC_same]
theorem and_mask (x : Int) (m : Nat) (hm : m ≤ 40) : bits .and .i64 x (((2 ^ m : Nat) : Int) - 1) = x % ((2 ^ m : Nat) : Int) := by
  have hpos : 0 < 2 ^ m := Nat.two_pow_pos m
  have hle : 2 ^ m ≤ 2 ^ 40 := Nat.pow_le_pow_right (by decide) hm
  have hd : 2 ^ m ∣ 2 ^ 64 := Nat.pow_dvd_pow 2 (by omega)
  rw [show (((2 ^ m : Nat) : Int) - 1) = ((2 ^ m - 1 : Nat) : Int) by omega]
  have e1 : (BitVec.ofInt 64 x).toNat % 2 ^ m = (x % ((2 ^ m : Nat) : Int)).toNat := by
    rw [BitVec.toNat_ofInt]
    have h1 : (0 : Int) ≤ x % ((2 ^ 64 : Nat) : Int) := Int.emod_nonneg _ (by simp)
    have h2 : (0 : Int) ≤ x % ((2 ^ m : Nat) : Int) := Int.emod_nonneg _ (by omega)
    apply Int.ofNat.inj
    show (((x % ((2 ^ 64 : Nat) : Int)).toNat % 2 ^ m : Nat) : Int) = (((x % ((2 ^ m : Nat) : Int)).toNat : Nat) : Int)
    rw [Int.natCast_emod, Int.toNat_of_nonneg h1, Int.toNat_of_nonneg h2]
    exact Int.emod_emod_of_dvd _ (Int.natCast_dvd_natCast.2 hd)
  have e2 : x % ((2 ^ m : Nat) : Int) < ((2 ^ m : Nat) : Int) := Int.emod_lt_of_pos _ (by omega)
  have e3 : (0 : Int) ≤ x % ((2 ^ m : Nat) : Int) := Int.emod_nonneg _ (by omega)
  unfold bits
  simp only [BitVec.toNat_and, BitVec.ofInt_natCast, BitVec.toNat_ofNat]
  show IntKind.i64.wrap (((BitVec.ofInt 64 x).toNat &&& (2 ^ m - 1) % 2 ^ 64 : Nat) : Int) = _
  rw [Nat.mod_eq_of_lt (by omega), Nat.and_two_pow_sub_one_eq_mod, e1, Int.toNat_of_nonneg e3]
  exact IntWalk.i64_in _ (by omega)
theorem mask_next {n m c : Nat} (hn : n = 2 ^ m) (hm : m ≤ 40) (hc : c < n) : bits .and .i64 ((c : Int) + 1) ((n : Int) - 1) = ((nxc n c : Nat) : Int) := by
  subst hn
  rw [and_mask _ m hm]
  unfold nxc
  generalize 2 ^ m = n at *
  split
  · rename_i h
    rw [show (c : Int) + 1 = (n : Int) by omega, Int.emod_self]; rfl
  · rw [Int.emod_eq_of_lt (by omega) (by omega)]; rfl
theorem mask_dst {n m x y : Nat} (hn : n = 2 ^ m) (hm : m ≤ 40) (hx : x < n) (hy : y < n) : bits .and .i64 ((y : Int) - (x : Int)) ((n : Int) - 1) = ((dst n x y : Nat) : Int) := by
  subst hn
  rw [and_mask _ m hm]
  unfold dst
  generalize 2 ^ m = n at *
  split
  · rw [Int.emod_eq_of_lt (by omega) (by omega)]; omega
  · rw [← Int.add_emod_right, Int.emod_eq_of_lt (by omega) (by omega)]; omega
def hx (x : Int) : Int := bits .xor .u64 x (x / 8589934592)
theorem hx_bd (x : Int) : 0 ≤ hx x ∧ hx x ≤ 18446744073709551615 := ⟨bits_lo_u64 _ _ _, bits_hi_u64 _ _ _⟩
def hA (id : Nat) : Int := hx (IntKind.u64.wrap (hx (IntKind.u64.wrap (hx (id : Int) * 18397679294719823053)) * 14181476777654086739))
def hF (n id : Nat) : Nat := (bits .and .u64 (hA id) (IntKind.u64.wrap ((n : Int) - 1))).toNat
theorem hF_val {n m id : Nat} (hn : n = 2 ^ m) (hm : m ≤ 40) : bits .and .u64 (hA id) (IntKind.u64.wrap ((n : Int) - 1)) = ((hF n id : Nat) : Int) ∧ hF n id < n := by
  have hpos : 0 < 2 ^ m := Nat.two_pow_pos m
  have hle : 2 ^ m ≤ 2 ^ 40 := Nat.pow_le_pow_right (by decide) hm
  obtain ⟨hb1, hb2⟩ : 0 ≤ hA id ∧ hA id ≤ 18446744073709551615 := by unfold hA; exact hx_bd _
  unfold hF
  generalize hA id = y at *
  have e0 : IntKind.u64.wrap ((n : Int) - 1) = (2 : Int) ^ m - 1 := by
    rw [IntKind.wrap_u64, hn]
    have : (((2 ^ m : Nat)) : Int) = (2 : Int) ^ m := by simp
    rw [← this]
    omega
  have e1 := bits_mask .u64 64 (by decide) (fun k h0 h1 => by rw [IntKind.wrap_u64]; omega) m (by omega) y hb1 (by omega)
  rw [e0, e1]
  have hnn : (n : Int) = (2 : Int) ^ m := by rw [hn]; simp
  rw [← hnn]
  have h1 : (0 : Int) ≤ y % (n : Int) := Int.emod_nonneg _ (by omega)
  have h2 : y % (n : Int) < (n : Int) := Int.emod_lt_of_pos _ (by omega)
  exact ⟨(Int.toNat_of_nonneg h1).symm, by omega⟩
set_option maxHeartbeats 1000000 in
theorem in_home (w : World) (b cb n cp m : Nat) (id : Nat) (c3 : w.cell? ⟨b, 3, none⟩ = some (.slice (some ⟨cb, 0, none⟩) n cp)) (hn : n = 2 ^ m) (hm : m ≤ 40) :
    Calls Tryz.prog 132 #[.pointer (some ⟨b, 0, none⟩), .int .u64 id] w (Ret (.int .i64 ((hF n id : Nat) : Int)) w) := by
  obtain ⟨h1, h2⟩ := hF_val (id := id) hn hm
  have hle : 2 ^ m ≤ 2 ^ 40 := Nat.pow_le_pow_right (by decide) hm
  have HV : Hid (wrap64 (bits .and .u64 (hA id) (IntKind.u64.wrap ((n : Int) - 1))) = ((hF n id : Nat) : Int)) := by
    show wrap64 _ = _
    rw [h1]
    unfold wrap64
    omega
  have hnb : n ≤ 1099511627776 := by omega
  clear h1 h2 hn hle
  go_enter Tryz.func132, Tryz.ntmps132
  go_wp2
  go_ret
  exact ⟨ret_int HV.out, rfl⟩
structure IG where
  ab : Nat
  iv : Value
  cb : Nat
  n : Nat
  cp : Nat
  m : Nat
  C : Nat → Nat
structure InR (w : World) (b : Nat) (G : IG) (L : Nat) (D : Nat → Nat) : Prop where
  box : Blk w b 167 [.pointer (some ⟨b, 0, none⟩), .pointer (some ⟨G.ab, 0, none⟩), G.iv, .slice (some ⟨G.cb, 0, none⟩) G.n G.cp]
  cel : w.ownsRow 0 3 1 (.slice (some ⟨G.cb, 0, none⟩) G.n G.cp) G.n (cRow G.n G.C)
  row : w.ownsRow 0 25 1 G.iv L (idRow L D)
  pw : G.n = 2 ^ G.m
  mb0 : G.m ≤ 17
  d1 : b ≠ G.cb
  d2 : G.iv.ownBlock ≠ some b
  d3 : G.iv.ownBlock ≠ some G.cb
def IG.foot (G : IG) (b k : Nat) : Prop := k = b ∨ k = G.cb ∨ G.iv.ownBlock = some k
structure InP (G : IG) (S L : Nat) (Lv : Nat → Prop) (D : Nat → Nat) : Prop where
  tab : TabP G.n G.C (fun v => hF G.n (D (v - 1)))
  mem : ∀ v, (∃ i, v = i + 1 ∧ Lv i) ↔ v ≠ 0 ∧ ∃ c, c < G.n ∧ G.C c = v
  inj : ∀ i j, Lv i → Lv j → D i = D j → i = j
  two : 2 * S ≤ G.n ∧ 2 ≤ G.n
def InO (w : World) (b S : Nat) (Lv : Nat → Prop) (D : Nat → Nat) (F : Nat → Prop) : Prop :=
  ∃ G L FA, InR w b G L D ∧ InP G S L Lv D ∧ ArO w G.ab S L Lv FA ∧ (∀ k, FA k → ¬ G.foot b k ∧ F k) ∧ ∀ k, G.foot b k → F k
section
variable {w w' : World} {b : Nat} {G : IG} {S L : Nat} {Lv : Nat → Prop} {D : Nat → Nat}
theorem InR.mb (h : InR w b G L D) : G.m ≤ 40 := Nat.le_trans h.mb0 (by decide)
theorem InR.foot_lt (h : InR w b G L D) : ∀ k, G.foot b k → k < w.heap.size := by
  rintro k (rfl | rfl | e)
  · exact h.box.lt
  · exact (h.cel.lt _ rfl).2
  · exact (h.row.lt k e).2
theorem InR.mod {F : Nat → Prop} (h : InR w b G L D) (m : Mod F w w') (hF : ∀ k, G.foot b k → ¬ F k) : InR w' b G L D :=
  ⟨h.box.mod m (hF _ (.inl rfl)), owns_modL h.cel m (fun x e => hF x (.inr (.inl (by injection e with e; exact e.symm)))), owns_modL h.row m (fun x e => hF x (.inr (.inr e))), h.pw, h.mb0, h.d1, h.d2, h.d3⟩
theorem InR.below (h : InR w b G L D) (m : Below w.heap.size w w') : InR w' b G L D :=
  ⟨h.box.below m h.box.lt, owns_same h.cel (fun k e => m.block k (h.cel.lt k e).2), owns_same h.row (fun k e => m.block k (h.row.lt k e).2), h.pw, h.mb0, h.d1, h.d2, h.d3⟩
theorem InR.c0 (h : InR w b G L D) : w.cell? ⟨b, 0, none⟩ = some (.pointer (some ⟨b, 0, none⟩)) := h.box.cell (i := 0) rfl
theorem InR.c1 (h : InR w b G L D) : w.cell? ⟨b, 1, none⟩ = some (.pointer (some ⟨G.ab, 0, none⟩)) := h.box.cell (i := 1) rfl
theorem InR.c2 (h : InR w b G L D) : w.cell? ⟨b, 2, none⟩ = some G.iv := h.box.cell (i := 2) rfl
theorem InR.c3 (h : InR w b G L D) : w.cell? ⟨b, 3, none⟩ = some (.slice (some ⟨G.cb, 0, none⟩) G.n G.cp) := h.box.cell (i := 3) rfl
theorem InR.cc (h : InR w b G L D) {c : Nat} (hc : c < G.n) : w.cell? ⟨G.cb, c, none⟩ = some (.int .i64 (G.C c : Int)) := (h.cel.cellAt c (by omega)).trans (cRow_get hc)
theorem InR.id (h : InR w b G L D) {i : Nat} (hi : i < L) : ∃ g cap, G.iv = .slice (some ⟨g, 0, none⟩) L cap ∧ w.cell? ⟨g, i, none⟩ = some (.int .u64 (D i : Int)) ∧ w.frozen? ⟨g, i, none⟩ = false ∧ g < w.heap.size := by
  obtain ⟨g, cap, hv, _, _, hg, hc, hz⟩ := owns_form h.row (by omega)
  exact ⟨g, cap, hv, (hc i (by omega)).trans (idRow_get hi), hz i, hg⟩
theorem InR.nb (h : InR w b G L D) : G.n ≤ 1099511627776 := by
  have := h.pw
  have hle : 2 ^ G.m ≤ 2 ^ 40 := Nat.pow_le_pow_right (by decide) h.mb
  omega
theorem InR.n17 (h : InR w b G L D) : G.n ≤ 131072 := by
  have h1 : 2 ^ G.m ≤ 2 ^ 17 := Nat.pow_le_pow_right (by decide) h.mb0
  have h2 : (2 : Nat) ^ 17 = 131072 := by decide
  have := h.pw
  omega
theorem InO.mod {F M : Nat → Prop} (h : InO w b S Lv D F) (m : Mod M w w') (hF : ∀ k, F k → ¬ M k) : InO w' b S Lv D F := by
  obtain ⟨G, L, FA, h1, h2, h3, h4, h5⟩ := h
  exact ⟨G, L, FA, h1.mod m (fun k hk => hF k (h5 k hk)), h2, h3.mod m (fun k hk => hF k (h4 k hk).2), h4, h5⟩
theorem InO.below {F : Nat → Prop} (h : InO w b S Lv D F) (m : Below w.heap.size w w') : InO w' b S Lv D F := by
  obtain ⟨G, L, FA, h1, h2, h3, h4, h5⟩ := h
  exact ⟨G, L, FA, h1.below m, h2, h3.below m, h4, h5⟩
theorem InO.wide {F F' : Nat → Prop} (h : InO w b S Lv D F) (hF : ∀ k, F k → F' k) : InO w b S Lv D F' := by
  obtain ⟨G, L, FA, h1, h2, h3, h4, h5⟩ := h
  exact ⟨G, L, FA, h1, h2, h3, fun k hk => ⟨(h4 k hk).1, hF k (h4 k hk).2⟩, fun k hk => hF k (h5 k hk)⟩
theorem InO.tight {F : Nat → Prop} (h : InO w b S Lv D F) : InO w b S Lv D (fun k => F k ∧ k < w.heap.size) := by
  obtain ⟨G, L, FA, h1, h2, h3, h4, h5⟩ := h
  exact ⟨G, L, _, h1, h2, h3.tight, fun k hk => ⟨(h4 k hk.1).1, (h4 k hk.1).2, hk.2⟩, fun k hk => ⟨h5 k hk, h1.foot_lt k hk⟩⟩
theorem InP.val (h : InP G S L Lv D) {c : Nat} (hc : c < G.n) (h0 : G.C c ≠ 0) : ∃ i, G.C c = i + 1 ∧ Lv i := (h.mem _).2 ⟨h0, c, hc, rfl⟩
end
theorem Tryz.eqlTable (a : Addr) (w : World) : (binOp .eql 120 (.pointer (some a)) (.pointer (some a))).run Tryz.prog w = .ok (.bool true) w := by
  have hj : ∃ j, Tryz.prog.info? 167 = some j := Option.isSome_iff_exists.1 (by kernel_rfl)
  obtain ⟨j, hj⟩ := hj
  exact run_eql_ptr_same w a Tryz.underlying120 hj
set_option maxHeartbeats 400000 in
theorem in_valid (b : Nat) (w : World) (h0 : w.cell? ⟨b, 0, none⟩ = some (.pointer (some ⟨b, 0, none⟩))) :
    Calls Tryz.prog 102 #[.pointer (some ⟨b, 0, none⟩)] w (Ret (.bool true) w) := by
  have he := Tryz.eqlTable ⟨b, 0, none⟩ w
  go_enter Tryz.func102, Tryz.ntmps102
  go_wp2
  go_ret
  exact ⟨rfl, rfl⟩
set_option maxHeartbeats 1000000 in
theorem in_len (w : World) (b S : Nat) (Lv : Nat → Prop) (D : Nat → Nat) (F : Nat → Prop) (h : InO w b S Lv D F) : Calls Tryz.prog 86 #[.pointer (some ⟨b, 0, none⟩)] w (Ret (.int .i64 (cntP Lv S : Int)) w) := by
  obtain ⟨G, L, FA, h1, h2, h3, h4, h5⟩ := h
  have HV := Lib.hid (in_valid b w h1.c0)
  have HL := Lib.hid (ar_len w G.ab S L Lv FA h3)
  have c1 := h1.c1
  generalize G.ab = ab at *
  clear h1 h2 h3 h4 h5
  go_enter Tryz.func86, Tryz.ntmps86
  go_wp2_with (first | (go_at_call 102; refine HV.out.mono ?_; rintro e w' ⟨rfl, rfl⟩) | (go_at_call 85; refine HL.out.mono ?_; rintro e w' ⟨rfl, rfl⟩))
  go_ret
  exact ⟨rfl, rfl⟩
end Go.Proofs.YtlooaipipmiijaaGreat

namespace Go.Proofs.YtlooaipipmiijaaGreat
set_option linter.unusedVariables false
set_option linter.unusedSimpArgs false
open Go.RowKit Go.Shelf
def recOf (fn : FuncId) (tmps : Array Value) (ps : Array Tmp) (assign body : Code) (D : Nat) (st : LoopState) : Loop :=
  { state := st, pending := none, fn, tmps, params := ps, assign, body, defers := D }
theorem Mod.putObj {F : Nat → Prop} {a w : World} (h : Mod F a w) (l : Nat) (o : Obj) (hl : l < a.heap.size → F l) : Mod F a (w.putObj l o) :=
  h.trans (G := fun x => x = l) ⟨rfl, rfl, rfl, by simp [World.putObj], fun _ _ hk => World.putObj_heap_other hk⟩ (fun x hx e => by subst e; exact hl hx)
theorem wp_range {P : Program} {n : Nat} {g : Operand} {ps : Array Tmp} {assign body : Code} {Q : Exit → Act → World → Prop} {a : Act} {w : World}
    {gf : Nat} {lb : Array Value} (hg : a.eval g = .func (.func gf) #[] lb) (eg : ∀ args w, (callFunc gf args).run P w = .ok (.enter gf args) w)
    (Done : World → Prop)
    (hcall : ∀ fn, CallsIn Fence.wide (n - 1) P gf (#[.func (.yield (w.heap.size + 1)) #[] #[]] ++ lb) ((w.alloc (.deferred (some []))).alloc (.loop (recOf fn a.tmps ps assign body w.heap.size .ready)))
      fun e W2 => (∃ v, e = .returned v) ∧ W2.heap[w.heap.size + 1]? = some (.loop (recOf fn a.tmps ps assign body w.heap.size .ready)) ∧ W2.heap[w.heap.size]? = some (.deferred (some [])) ∧ Done W2)
    (hdone : ∀ W2 r, Done W2 →
      Q .normal { a with defers := { target := .collected w.heap.size, args := #[] } :: a.defers } (W2.putObj (w.heap.size + 1) (.loop r))) :
    (Code.rangeFunc g ps assign body).wpIn Fence.wide n P Q a w := by
  refine wpIn_rangeFunc ?_
  intro fn hfn
  refine ⟨w.heap.size + 1, [{ target := .collected w.heap.size, args := #[] }], ((w.alloc (.deferred (some []))).alloc (.loop (recOf fn a.tmps ps assign body w.heap.size .ready))), { target := .fn (.func gf) lb, args := #[.func (.yield (w.heap.size + 1)) #[] #[]] },
    ((w.alloc (.deferred (some []))).alloc (.loop (recOf fn a.tmps ps assign body w.heap.size .ready))), gf,
    #[.func (.yield (w.heap.size + 1)) #[] #[]] ++ lb, ((w.alloc (.deferred (some []))).alloc (.loop (recOf fn a.tmps ps assign body w.heap.size .ready))), run_enterLoop_outer _ _ _ _ _, ?_, fun _ _ => trivial, ?_, fun h => by simp [Fence.wide] at h, ?_⟩
  · simp only [resolve, hg]
    simp [go_sem]
  · simp [invoke, go_sem, eg]
  · refine CallsIn.mono (hcall fn) ?_
    rintro e W2 ⟨⟨v, rfl⟩, hl, hk, hd⟩
    exact ⟨none, _, run_endLoop (P := P) hl (by simp [recOf]), hdone _ _ hd⟩
def roundOk (L : Nat) (rb r : Loop) (R : Ending → World → Prop) : Exit → Act → World → Prop
  | .normal, _, W3 => W3.heap[L]? = some (.loop rb) ∧ R (.returned (.bool true)) (W3.putObj L (.loop r))
  | _, _, _ => False
theorem yieldAt_of {P : Program} {m l : Nat} {W : World} {args : Array Value} {R : Ending → World → Prop} {fn : FuncId} {tmps : Array Value} {ps : Array Tmp} {assign body : Code} {D : Nat}
    (hl : W.heap[l]? = some (.loop (recOf fn tmps ps assign body D .ready))) (hs : args.size = ps.size) (a1 : Act)
    (hassign : ∀ K : Act → World → Prop, K a1 W → assign.wpIn (Fence.wide.inRound l) m P (Exit.then K (fun _ _ _ => False)) { tmps := (ps.zip args).foldl (fun t (p, v) => t.setIfInBounds p v) tmps, defers := [] } W)
    (hbody : ∀ r rb Wb, recOf fn tmps ps assign body D .ready = r → Wb = W.putObj l (.loop rb) → body.wpIn (Fence.wide.inRound l) m P (roundOk l rb r R) a1 Wb) :
    YieldAt Fence.wide m P l args W R := by
  have hy := run_yield (P := P) (args := args) hl (by simpa [recOf] using hs)
  refine ⟨fn, _, assign, body, hy, roundIn_of_wpIn trivial (hassign _ ⟨_, run_beginRound hl rfl, ?_⟩)⟩
  refine wpIn_mono (hbody _ (recOf fn tmps ps assign body D .busy) _ rfl rfl) ?_
  intro e a3 W3 hp
  cases e with
  | normal =>
    obtain ⟨h1, h2⟩ := hp
    exact ⟨_, _, run_endRound (P := P) none h1, h2⟩
  | ret => exact hp.elim
  | exit id => exact hp.elim
  | goto t => exact hp.elim
  | panic ch => exact hp.elim
  | outgrown => exact hp.elim
theorem wpListIn_appendB {F : Fence} {k : Nat} {P : Program} {ops : Array Oper} {rest : List Oper} {d : Tmp} {t ty : TypeId} {s x : Operand} {pos : String} {aft : Array Edge} {a : Act} {Q : Exit → Act → World → Prop} {w : World}
    (e : TypeId) (z : Value) (size bytes : Nat) (ht : P.underlying t = some (.slice e)) (hz : (P.info? e).map (fun i => (i.zero, i.size, i.bytes)) = some (some z, size, bytes))
    (hzs : z.cells.size = size) (hsz : 0 < size) (v : Value) (n : Nat) (xs : List Value) (hs : a.eval s = v) (hown : w.ownsRow 0 e size v n xs)
    (ad : Addr) (m c : Nat) (news : List Value) (hx : a.eval x = .slice (some ad) m c) (hl : news.length = m * size) (hnews : ∀ j u, news[j]? = some u → w.cell? (ad.add j) = some u) (h1 : ∀ u ∈ news, u.oneCell' = true)
    (h63 : n + m ≤ maxLen) (hbytes : (n + m) * bytes ≤ 140737488355328)
    (h : ∀ v' w', w'.ownsRow 0 e size v' (n + m) (xs ++ news) → w.grownBy w' v.ownBlock → (∀ k, v'.ownBlock = some k → v.ownBlock = some k ∨ w.heap.size ≤ k) → wpListIn F k P ops Q rest (a.put (some d) v') w') :
    wpListIn F k P ops Q (⟨some d, .call { callee := .builtin .append, args := #[s, x], argTypes := #[t, t] }, ty, pos, aft, none⟩ :: rest) a w := by
  obtain ⟨v', w', hr, h2, h3, h4⟩ := run_appendB (P := P) w t ty e z size bytes ht hz hzs hsz v n xs hown ad m c news hl hnews h1 h63 hbytes
  refine wpListIn_plain rfl fun K hK' => ?_
  unfold Oper.wpIn
  refine ⟨?_, ?_⟩
  · simp [Oper.about, resolve, Target.leads, Sem.run_pure]
  · rw [Oper.semAt_plain F _ _ (by intro c hc'; cases hc')]
    simp [execOp, resolve, invoke, builtin, hs, hx, hr, Result.andThen]
    exact hK' _ _ (h v' w' h2 h3 h4)
end Go.Proofs.YtlooaipipmiijaaGreat

namespace Go.Proofs.YtlooaipipmiijaaGreat
set_option linter.unusedVariables false
set_option linter.unusedSimpArgs false
open Go.RowKit Go.Shelf
theorem wp_rangeJ {P : Program} {n : Nat} {g : Operand} {ps : Array Tmp} {assign body : Code} {Q : Exit → Act → World → Prop} {a : Act} {w : World}
    {gf : Nat} {lb : Array Value} (hg : a.eval g = .func (.func gf) #[] lb) (eg : ∀ args w, (callFunc gf args).run P w = .ok (.enter gf args) w)
    (DoneN DoneR : World → Prop)
    (hcall : ∀ fn, CallsIn Fence.wide (n - 1) P gf (#[.func (.yield (w.heap.size + 1)) #[] #[]] ++ lb) ((w.alloc (.deferred (some []))).alloc (.loop (recOf fn a.tmps ps assign body w.heap.size .ready)))
      fun e W2 => (∃ v, e = .returned v) ∧ ∃ r : Loop, W2.heap[w.heap.size + 1]? = some (.loop r) ∧ r.state ≠ .busy ∧ ((r.pending = none ∧ DoneN W2) ∨ (r.pending = some .ret ∧ DoneR W2)))
    (hN : ∀ W2 r, DoneN W2 → Q .normal { a with defers := { target := .collected w.heap.size, args := #[] } :: a.defers } (W2.putObj (w.heap.size + 1) (.loop r)))
    (hR : ∀ W2 r, DoneR W2 → Q .ret { a with defers := { target := .collected w.heap.size, args := #[] } :: a.defers } (W2.putObj (w.heap.size + 1) (.loop r))) :
    (Code.rangeFunc g ps assign body).wpIn Fence.wide n P Q a w := by
  refine wpIn_rangeFunc ?_
  intro fn hfn
  refine ⟨w.heap.size + 1, [{ target := .collected w.heap.size, args := #[] }], ((w.alloc (.deferred (some []))).alloc (.loop (recOf fn a.tmps ps assign body w.heap.size .ready))), { target := .fn (.func gf) lb, args := #[.func (.yield (w.heap.size + 1)) #[] #[]] },
    ((w.alloc (.deferred (some []))).alloc (.loop (recOf fn a.tmps ps assign body w.heap.size .ready))), gf,
    #[.func (.yield (w.heap.size + 1)) #[] #[]] ++ lb, ((w.alloc (.deferred (some []))).alloc (.loop (recOf fn a.tmps ps assign body w.heap.size .ready))), run_enterLoop_outer _ _ _ _ _, ?_, fun _ _ => trivial, ?_, fun h => by simp [Fence.wide] at h, ?_⟩
  · simp only [resolve, hg]
    simp [go_sem]
  · simp [invoke, go_sem, eg]
  · refine CallsIn.mono (hcall fn) ?_
    rintro e W2 ⟨⟨v, rfl⟩, r, hl, hs, hd⟩
    rcases hd with ⟨hp, hd⟩ | ⟨hp, hd⟩
    · exact ⟨none, _, by rw [← hp]; exact run_endLoop (P := P) hl hs, hN _ _ hd⟩
    · exact ⟨some .ret, _, by rw [← hp]; exact run_endLoop (P := P) hl hs, wpIn_ret (hR _ _ hd)⟩
def roundOkR (L : Nat) (rb r : Loop) (R : Ending → World → Prop) : Exit → Act → World → Prop
  | .normal, _, W3 => W3.heap[L]? = some (.loop rb) ∧ R (.returned (.bool true)) (W3.putObj L (.loop r))
  | .ret, _, W3 => W3.heap[L]? = some (.loop rb) ∧ R (.returned (.bool false)) (W3.putObj L (.loop { r with state := .done, pending := some .ret }))
  | _, _, _ => False
theorem yieldAt_ofR {P : Program} {m l : Nat} {W : World} {args : Array Value} {R : Ending → World → Prop} {fn : FuncId} {tmps : Array Value} {ps : Array Tmp} {assign body : Code} {D : Nat}
    (hl : W.heap[l]? = some (.loop (recOf fn tmps ps assign body D .ready))) (hs : args.size = ps.size) (a1 : Act)
    (hassign : ∀ K : Act → World → Prop, K a1 W → assign.wpIn (Fence.wide.inRound l) m P (Exit.then K (fun _ _ _ => False)) { tmps := (ps.zip args).foldl (fun t (p, v) => t.setIfInBounds p v) tmps, defers := [] } W)
    (hbody : ∀ r rb Wb, recOf fn tmps ps assign body D .ready = r → Wb = W.putObj l (.loop rb) → body.wpIn (Fence.wide.inRound l) m P (roundOkR l rb r R) a1 Wb) :
    YieldAt Fence.wide m P l args W R := by
  have hy := run_yield (P := P) (args := args) hl (by simpa [recOf] using hs)
  refine ⟨fn, _, assign, body, hy, roundIn_of_wpIn trivial (hassign _ ⟨_, run_beginRound hl rfl, ?_⟩)⟩
  refine wpIn_mono (hbody _ (recOf fn tmps ps assign body D .busy) _ rfl rfl) ?_
  intro e a3 W3 hp
  cases e with
  | normal =>
    obtain ⟨h1, h2⟩ := hp
    exact ⟨_, _, run_endRound (P := P) none h1, h2⟩
  | ret =>
    obtain ⟨h1, h2⟩ := hp
    exact ⟨_, _, run_endRound (P := P) (some .ret) h1, h2⟩
  | exit id => exact hp.elim
  | goto t => exact hp.elim
  | panic ch => exact hp.elim
  | outgrown => exact hp.elim
theorem results_cell2 {fn : Func} {p q : Tmp} {T1 T2 : TypeId} (h : fn.results = #[.cell p T1, .cell q T2]) {tmps : Array Value} {P : Program} {w : World} {a b : Addr} {x y : Value}
    (ha : tmps.getD p undef = .pointer (some a)) (hb : tmps.getD q undef = .pointer (some b))
    (hx : (loadVar T1 a).run P w = .ok x w) (hy : (loadVar T2 b).run P w = .ok y w) :
    (results fn tmps).run P w = .ok (.tuple #[x, y]) w := by
  simp only [results, h]
  simp [Sem.run_bind, Result.andThen, -Array.getD_eq_getD_getElem?, ha, hb, hx, hy, asAddr]
end Go.Proofs.YtlooaipipmiijaaGreat

namespace Go.Proofs.YtlooaipipmiijaaGreat
set_option linter.unusedVariables false
set_option linter.unusedSimpArgs false
open Go.RowKit
def plainOp (o : Oper) : Bool :=
  match o.op with
  | .nilCheck _ | .extract _ _ | .move _ | .assign _ | .pick _ _ _ | .alloc _ | .box _ _ | .build _ _ | .buildSlice _ _ _ | .load _ _ | .store _ _ _ | .binOp _ _ _ _ _ | .unOp _ _ _ | .convert _ _ _ | .makeSlice _ _ _ | .slice _ _ _ _ _ | .fieldAddr _ _ _ | .field _ _ _ | .indexAddr _ _ _ | .index _ _ _ => true
  | _ => false
def Flow (r : Result Next) : Prop := (∃ v w, r = .ok (.value v) w) ∨ (∃ w, r = .ok .skip w) ∨ ∃ h w, r = .halt h w
theorem flow_v {P : Program} {w : World} (s : Sem Value) : Flow ((do pure (Next.value (← s)) : Sem Next).run P w) := by
  simp only [Sem.run_bind, Sem.run_pure]
  cases s.run P w with
  | ok v w' => exact .inl ⟨v, w', rfl⟩
  | halt h w' => exact .inr (.inr ⟨h, w', rfl⟩)
theorem flow_u {P : Program} {w : World} (s : Sem Unit) : Flow ((do s; pure Next.skip : Sem Next).run P w) := by
  simp only [Sem.run_bind, Sem.run_pure]
  cases s.run P w with
  | ok v w' => exact .inr (.inl ⟨w', rfl⟩)
  | halt h w' => exact .inr (.inr ⟨h, w', rfl⟩)
theorem flow_pick {P : Program} {w : World} (s : Sem Bool) (f : Bool → Value) : Flow ((do pure (Next.value (f (← s))) : Sem Next).run P w) := by
  simp only [Sem.run_bind, Sem.run_pure]
  cases s.run P w with
  | ok v w' => exact .inl ⟨_, w', rfl⟩
  | halt h w' => exact .inr (.inr ⟨h, w', rfl⟩)
theorem flow_panic {P : Program} {w : World} : Flow ((runtimePanic .nilDeref : Sem Next).run P w) := .inr (.inr ⟨_, _, rfl⟩)
theorem flow_ahead {P : Program} {w : World} (s : Sem (Option Bool)) (u : Unsupported) (v : Value) : Flow ((do
    if (← s) != some false then unsupported u
    pure (Next.value v) : Sem Next).run P w) := by
  simp only [Sem.run_bind]
  cases s.run P w with
  | ok b w' =>
    simp only [Result.andThen_ok]
    split
    · exact .inr (.inr ⟨_, _, rfl⟩)
    · exact .inl ⟨_, _, rfl⟩
  | halt h w' => exact .inr (.inr ⟨h, w', rfl⟩)
theorem flow_nil {P : Program} {w : World} (x : Value) : Flow ((execOp (fun _ => x) ⟨none, .nilCheck (.tmp 0), 0, "", #[], none⟩).run P w) := by
  unfold execOp
  simp only
  split
  · exact flow_panic
  · exact flow_panic
  · exact flow_panic
  · split
    · exact flow_panic
    · rw [Sem.run_bind]
      generalize Sem.run P program w = r
      cases r with
      | ok p w1 =>
        rw [Result.andThen_ok]
        exact flow_ahead (nilAhead _ _ _ _) _ _
      | halt h w' => exact .inr (.inr ⟨h, w', rfl⟩)
    · exact .inl ⟨_, _, rfl⟩
  · exact .inl ⟨_, _, rfl⟩

theorem plain_flow {P : Program} {w : World} {o : Oper} (h : plainOp o = true) (ρ : Operand → Value) : Flow ((execOp ρ o).run P w) := by
  unfold plainOp at h
  unfold execOp
  split at h <;> rename_i hop <;> simp only [hop] <;> first
    | exact .inl ⟨_, w, rfl⟩
    | exact flow_v _
    | exact flow_u _
    | exact flow_pick _ (fun b => if b then _ else _)
    | exact flow_nil _
    | cases h
def NormQ (Q : Exit → Act → World → Prop) (e : Exit) (a : Act) (w : World) : Prop := e = .normal ∧ Q .normal a w
theorem plain_about {P : Program} {w : World} {o : Oper} (hp : plainOp o = true) (ρ : Operand → Value) : o.about P w ρ = none := by
  unfold Oper.about
  cases hop : o.op <;> first | rfl | (unfold plainOp at hp; rw [hop] at hp; cases hp)
theorem wpOpIn_plain {F : Fence} {n : Nat} {P : Program} {ops : Array Oper} {Q : Exit → Act → World → Prop} {i : Nat} {K K' : Act → World → Prop} {a : Act} {w : World} (hpl : ∀ o, ops[i]? = some o → plainOp o = true)
    (hK : ∀ a w, K a w → K' a w) (h : wpOp P ops (NormQ Q) i K a w) : wpOpIn F n P ops Q i K' a w := by
  unfold wpOp at h
  unfold wpOpIn
  cases ho : ops[i]? with
  | none => simp only [ho] at h ⊢; exact hK _ _ h
  | some o =>
    simp only [ho] at h ⊢
    have hp := hpl o ho
    have hab : ∀ f, o.about P w a.eval = some f → F.fn f := fun f hf => by rw [plain_about hp] at hf; cases hf
    by_cases hw : Region.wanted o (yielded ops a.tmps) = true
    · rw [if_pos hw] at h ⊢
      rcases h with h | ⟨_, a', w', h, _⟩
      · refine ⟨hab, ?_⟩
        rw [Oper.semAt_plain F _ _ (fun c e => by unfold plainOp at hp; rw [e] at hp; cases hp)]
        unfold Oper.wp at h
        rcases plain_flow (P := P) (w := w) hp a.eval with ⟨v, w', e⟩ | ⟨w', e⟩ | ⟨hh, w', e⟩
        · rw [e] at h ⊢; exact hK _ _ h
        · rw [e] at h ⊢; exact hK _ _ h
        · rw [e] at h
          exfalso
          cases hh <;> first | exact h | (have := h.1; cases this)
      · cases h
    · rw [if_neg hw] at h ⊢
      exact ⟨hab, hK _ _ h⟩
theorem wpAnyIn_plain {F : Fence} {n : Nat} {P : Program} {md : Region.Mode} {ops : Array Oper} {Q : Exit → Act → World → Prop} (hpl : ∀ (i : Nat) (o : Oper), ops[i]? = some o → plainOp o = true) :
    ∀ (fuel : Nat) (listed : Array Bool) (a : Act) (w : World), wpAny P md ops (NormQ Q) fuel listed a w → wpAnyIn F n P md ops Q fuel listed a w
  | 0, listed, a, w, h => ⟨h.1, h.2.2⟩
  | fuel + 1, listed, a, w, h => ⟨fun hr => (h.1 hr).2, fun i hi => wpOpIn_plain (hpl i) (fun a' w' => wpAnyIn_plain hpl fuel _ a' w') (h.2 i hi)⟩
def plainOps (l : List Oper) : Bool := l.all plainOp
theorem plainOps_of {l : List Oper} (h : plainOps l = true) : ∀ (i : Nat) (o : Oper), l.toArray[i]? = some o → plainOp o = true := by
  intro i o ho
  exact List.all_eq_true.1 h o (List.mem_of_getElem? (by simpa using ho))
theorem region_tailIn {F : Fence} {m : Nat} {P : Program} {id : Nat} {Q : Exit → Act → World → Prop} {a : Act} {w : World} {l : List Oper} (n : Nat) (hm : P.follows .mixedOrders = true) (hB : Region.lexTailB .any l.toArray n = true) (hpl : plainOps l = true)
    (h : ∀ w2, DrewOf w w2 → wpStill P l.toArray w2 (fun a' => wpList P l.toArray (NormQ Q) (l.drop n) a' w2) (l.take n) a) : (Code.region id l.toArray true).wpIn F m P Q a w := by
  have h := h _ rfl
  simp only [Region.lexTailB, Bool.and_eq_true, decide_eq_true_eq] at hB
  obtain ⟨⟨⟨⟨hsel, hn⟩, hs⟩, hc⟩, hlex⟩ := hB
  have hn' : n < l.length := by simpa using hn
  have htl : (l.take n).length = n := by simp; omega
  have hdl : (l.drop n).length = l.toArray.size - n := by simp
  have inv0 : HeadInv .any l.toArray n (Array.replicate l.toArray.size false) :=
    ⟨by simp, fun j oj _ hl => (by rw [getD_replicate_false] at hl; cases hl), fun t _ ht => getD_in (by simpa using ht) (getD_replicate_false _ _)⟩
  have H := wpAnyL_lex (md := .any) (g := l.toArray.size - n) hsel hs hc hn (l.take n) 0 _ a (fun j hj => by
    have hj' : j < n := by rw [htl] at hj; exact hj
    simp [hj']) (by simpa using htl) inv0 (by rw [htl]; exact hlex) h
  refine wpIn_region_any hm (wpAnyIn_plain (plainOps_of hpl) _ _ _ _ ?_)
  have := wpAny_of_head (Q' := NormQ Q) (g := l.toArray.size - n) (fun listed a' hL => by
    have := wpAny_of_seq (md := .any) (Q' := NormQ Q) (l.drop n) n listed a' w.drew (fun j => by simp [List.getElem?_drop]) (by rw [hdl]; exact hL.1) hL.2
    rwa [hdl] at this) _ _ _ H
  rw [htl, show n + (l.toArray.size - n) = l.toArray.size by omega] at this
  exact this
end Go.Proofs.YtlooaipipmiijaaGreat

namespace Go.Proofs.YtlooaipipmiijaaGreat
set_option linter.unusedVariables false
set_option linter.unusedSimpArgs false
open Go.RowKit Go.Shelf
attribute [local go_sem] Oper.semAt_some
def itC (n h : Nat) : Nat → Nat
  | 0 => h
  | k + 1 => nxc n (itC n h k)
theorem itC_lt {n h : Nat} (hh : h < n) : ∀ k, itC n h k < n
  | 0 => hh
  | k + 1 => nxc_lt (itC_lt hh k)
theorem itC_dst {n h : Nat} (hh : h < n) : ∀ k, k < n → dst n h (itC n h k) = k
  | 0, _ => dst_self n h
  | k + 1, hk => by
    have ih := itC_dst hh k (by omega)
    have hl := itC_lt hh k
    show dst n h (nxc n (itC n h k)) = _
    rw [dst_nxc hh hl (fun e => ?_), ih]
    have := itC_lt hh (k + 1)
    unfold nxc at e
    unfold dst at ih
    split at e <;> split at ih <;> omega
set_option maxHeartbeats 1000000 in
theorem in_probe (w : World) (b id : Nat) : Calls Tryz.prog 131 #[.pointer (some ⟨b, 0, none⟩), .int .u64 id] w
    (Ret (.func (.func 142) #[] #[.pointer (some ⟨w.heap.size, 0, none⟩), .pointer (some ⟨w.heap.size + 1, 0, none⟩)]) ((w.alloc (.cells #[.pointer (some ⟨b, 0, none⟩)] 120)).alloc (.cells #[.int .u64 id] 25))) := by
  go_enter Tryz.func131, Tryz.ntmps131
  go_wp2
  go_ret
  exact ⟨rfl, rfl⟩
set_option maxHeartbeats 4000000 in
set_option maxRecDepth 100000 in
theorem pr1_in (F b pb ib id : Nat) (G : IG) (L : Nat) (D : Nat → Nat) (l : Nat) (I : Nat → World → Prop) (J : World → Prop)
    (hI : ∀ k W, I k W → W.cell? ⟨pb, 0, none⟩ = some (.pointer (some ⟨b, 0, none⟩)) ∧ W.cell? ⟨ib, 0, none⟩ = some (.int .u64 id) ∧ InR W b G L D) (W : World) (h : I 0 W)
    (hY : ∀ k W1, k < G.n → I k W1 → YieldAt Fence.wide (F - 1) Tryz.prog l #[.int .i64 ((itC G.n (hF G.n id) k : Nat) : Int), .int .i64 ((G.C (itC G.n (hF G.n id) k) : Nat) : Int)] W1 fun e W' => (e = .returned (.bool true) ∧ I (k + 1) W') ∨ (e = .returned (.bool false) ∧ J W')) :
    CallsIn Fence.wide F Tryz.prog 142 #[.func (.yield l) #[] #[], .pointer (some ⟨pb, 0, none⟩), .pointer (some ⟨ib, 0, none⟩)] W
      fun e W' => (∃ v, e = .returned v) ∧ (J W' ∨ I G.n W') := by
  obtain ⟨cp, ci, hR⟩ := hI _ _ h
  have hnb := hR.nb
  have hpw := hR.pw
  have hmb := hR.mb
  have hlt := (hF_val (id := id) hpw hmb).2
  have HIT := Lib.hid (fun k => itC_lt hlt k)
  have HH := Lib.hid (in_home W b G.cb G.n G.cp G.m id hR.c3 hpw hmb)
  have c3 := hR.c3
  have HM := Lib.hid (⟨hpw, hmb⟩ : G.n = 2 ^ G.m ∧ G.m ≤ 40)
  have H := Lib.hid h
  have HY := Lib.hid hY
  have HI := Lib.hid hI
  clear h hY hI hR hpw hmb hlt
  refine callsIn_of_wp Tryz.func142 rfl trivial ?_ rfl
  simp only [Tryz.ntmps142, List.size_toArray, List.length_cons, List.length_nil, Nat.reduceAdd, Nat.reduceSub, Array.replicate_succ, Array.replicate_zero, List.push_toArray, List.append_toArray, List.nil_append, List.cons_append]
  gi_wp2_with fail
  refine ⟨trivial, fun h => by simp [Fence.wide] at h, CallsIn.mono (callsIn_wide.2 HH.out) ?_⟩
  rintro e w5 ⟨rfl, rfl⟩
  gi_wp2_with fail
  clear cp ci c3 HH
  gi_loopw [4, 13] (fun s4 s13 wr => ∃ k : Nat, k ≤ G.n ∧ s13 = .int .i64 k ∧ s4 = .int .i64 ((itC G.n (hF G.n id) k : Nat) : Int) ∧ I k wr) (fun _ s13 _ => G.n - (intOf s13).toNat)
  case atStart => exact ⟨0, Nat.zero_le _, rfl, rfl, H.out⟩
  case round =>
    obtain ⟨k, hk, rfl, rfl, hi⟩ := hrel
    obtain ⟨cp, ci, hR⟩ := HI.out k wr hi
    have HA := Lib.hid hi
    clear hi H
    by_cases h0 : k < G.n
    · have t1 : decide ((k : Int) < (G.n : Int)) = true := decide_eq_true (by omega)
      have t2 : decide (k < G.n) = true := decide_eq_true h0
      have hcl := HIT.out k
      have c3 := hR.c3
      have cc := hR.cc hcl
      have hw1 : IntKind.i64.wrap ((itC G.n (hF G.n id) k : Int) + 1) = (itC G.n (hF G.n id) k : Int) + 1 := IntWalk.i64_in _ (by omega)
      have hw2 : IntKind.i64.wrap ((G.n : Int) - 1) = (G.n : Int) - 1 := IntWalk.i64_in _ (by omega)
      have hw3 : IntKind.i64.wrap ((k : Int) + 1) = (k : Int) + 1 := IntWalk.i64_in _ (by omega)
      have hand := mask_next HM.out.1 HM.out.2 hcl
      obtain ⟨fn, tmps, assign, body, hy, hRR⟩ := HY.out k wr h0 HA.out
      have HRR := Lib.hid hRR
      have HK := Lib.hid h0
      have HCI := HI
      clear hR hRR
      have HNX : Hid (nxc G.n (itC G.n (hF G.n id) k) = itC G.n (hF G.n id) (k + 1)) := rfl
      generalize G.C (itC G.n (hF G.n id) k) = cv at *
      generalize hc : itC G.n (hF G.n id) k = c at *
      have HC := Lib.hid hc
      clear hc h0
      generalize G.cb = cb at *
      gi_wp2_with fail
      refine ⟨fun h => by simp [Fence.wide] at h, HRR.out.mono ?_⟩
      rintro e w5 (⟨rfl, hi5⟩ | ⟨rfl, hj5⟩)
      · obtain ⟨cp5, ci5, hR5⟩ := HI.out _ _ hi5
        have c35 := hR5.c3
        have HI5 := Lib.hid hi5
        clear hi5 hR5 hy cp ci c3 cc
        gi_wp2_with fail
        go_roundw
        case rel => exact ⟨k + 1, HK.out, by go_num, by rw [← HNX.out], HI5.out⟩
        case measure => have := HK.out; simp only [intOf]; omega
      · have HJ := Lib.hid hj5
        clear hj5 hy
        gi_wp2_with fail
        exact ⟨rfl, _, results_none rfl _ _ _, ⟨_, rfl⟩, .inl HJ.out⟩
    · have t1 : decide ((k : Int) < (G.n : Int)) = false := decide_eq_false (by omega)
      have t2 : decide (k < G.n) = false := decide_eq_false h0
      have HE : Hid (I G.n wr) := by
        have e : k = G.n := by omega
        rw [← e]; exact HA.out
      clear hR h0
      gi_wp2_with fail
      exact ⟨rfl, _, results_none rfl _ _ _, ⟨_, rfl⟩, .inr HE.out⟩
end Go.Proofs.YtlooaipipmiijaaGreat
