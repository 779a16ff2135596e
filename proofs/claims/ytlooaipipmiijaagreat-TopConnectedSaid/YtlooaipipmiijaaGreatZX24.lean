/- Several texts in one: StI, SortR, StJ, StK, MapR. -/
import Derived.Test.YtlooaipipmiijaaGreatZX01
import Derived.Test.YtlooaipipmiijaaGreatZX18
import Derived.Test.YtlooaipipmiijaaGreatZX23
import Derived.Carry
import Derived.Shelf.GgSortFunc.RowK
import Derived.Shelf.GgSortFunc.InsertionK
import Derived.Sort.Grow
import Derived.Shelf.SlMaps.Clone
namespace Go.Proofs.YtlooaipipmiijaaGreat
set_option linter.unusedVariables false
set_option linter.unusedSimpArgs false
open Go.RowKit
structure StNw (w : World) (V E last : Nat) (e : Ending) (w' : World) : Prop where
  ex : ∃ b g, e = .returned (.tuple #[.pointer (some ⟨b, 0, none⟩), .int .i64 0]) ∧ StM w' b g ∧ StL g ∧ g.V = V ∧ g.E = E ∧ g.last = last ∧ g.Lv = (fun _ => False) ∧ (∀ k, g.foot b k → w.heap.size ≤ k) ∧ w.heap.size ≤ b
  bel : Below w.heap.size w w'
theorem st_fresh {w w1 w2 : World} {V E last ab tb : Nat} (hV : V ≤ 4096) (hE : E ≤ 16384) (hao : ArO w1 ab E 0 (fun _ => False) (fun k => w.heap.size ≤ k)) (hb1 : Below w.heap.size w w1) (hio : InO w2 tb V (fun _ => False) (fun _ => 0) (fun k => w1.heap.size ≤ k)) (hb2 : Below w1.heap.size w1 w2) :
    StNw w V E last (.returned (.tuple #[.pointer (some ⟨w2.heap.size + 1, 0, none⟩), .int .i64 0])) ((w2.alloc (.map #[] 0)).alloc (.cells #[.int .i64 (V : Int), .int .i64 (E : Int), .int .u64 (last : Int), .pointer (some ⟨ab, 0, none⟩), .pointer (some ⟨tb, 0, none⟩), .slice none 0 0, .map (some w2.heap.size)] 123)) := by
  have s1 := hb1.size
  have s2 := hb2.size
  have hbl : Below w2.heap.size w2 ((w2.alloc (.map #[] 0)).alloc (.cells #[.int .i64 (V : Int), .int .i64 (E : Int), .int .u64 (last : Int), .pointer (some ⟨ab, 0, none⟩), .pointer (some ⟨tb, 0, none⟩), .slice none 0 0, .map (some w2.heap.size)] 123)) := ((Below.refl _ _).alloc (Nat.le_refl _) _).alloc (by simp) _
  have hbk : Blk ((w2.alloc (.map #[] 0)).alloc (.cells #[.int .i64 (V : Int), .int .i64 (E : Int), .int .u64 (last : Int), .pointer (some ⟨ab, 0, none⟩), .pointer (some ⟨tb, 0, none⟩), .slice none 0 0, .map (some w2.heap.size)] 123)) (w2.heap.size + 1) 123 [.int .i64 (V : Int), .int .i64 (E : Int), .int .u64 (last : Int), .pointer (some ⟨ab, 0, none⟩), .pointer (some ⟨tb, 0, none⟩), .slice none 0 0, .map (some w2.heap.size)] := Blk.new' _ _ [_, _, _, _, _, _, _] (by simp)
  have hmk : MapK .u64 ((w2.alloc (.map #[] 0)).alloc (.cells #[.int .i64 (V : Int), .int .i64 (E : Int), .int .u64 (last : Int), .pointer (some ⟨ab, 0, none⟩), .pointer (some ⟨tb, 0, none⟩), .slice none 0 0, .map (some w2.heap.size)] 123)) Tryz.prog 25 w2.heap.size 0 (fun _ => none) := (MapK.made .u64 w2 Tryz.prog 25).below (bel_alloc _ _) (by simp)
  obtain ⟨g, hg⟩ : ∃ g : SG, g = ⟨V, E, last, ab, 0, fun _ => False, fun k => w.heap.size ≤ k ∧ k < w1.heap.size, tb, fun _ => False, fun _ => 0, fun k => w1.heap.size ≤ k ∧ k < w2.heap.size, .slice none 0 0, 0, fun _ => lr0, w2.heap.size, fun _ => False, fun _ => [], fun _ => 0, fun _ => 0, 0, fun k => if k = w2.heap.size + 1 then 0 else if k = w2.heap.size then 4 else if k < w1.heap.size then 1 else 2⟩ := ⟨_, rfl⟩
  have hfm : ∀ i, g.fm i = none := fun i => by
    unfold SG.fm
    rw [if_neg (fun e => by rw [hg] at e; exact e.2)]
  refine ⟨⟨w2.heap.size + 1, g, rfl, ?_, ?_, by rw [hg], by rw [hg], by rw [hg], by rw [hg], ?_, by omega⟩, ((hb1.trans (hb2.mono s1)).trans (hbl.mono (by omega)))⟩
  · refine ⟨by rw [hg]; exact hbk, ?_, ?_, by rw [hg]; exact World.ownsRow_nil _ _ _ _, ?_, fun id h => by rw [hg] at h; exact h.elim, by rw [hg]; exact if_pos rfl, fun k h => ?_, fun k h => ?_, fun k h => by rw [hg] at h; simp [Value.ownBlock] at h, by rw [hg]; show (if w2.heap.size = w2.heap.size + 1 then 0 else if w2.heap.size = w2.heap.size then 4 else _) = 4; rw [if_neg (by omega), if_pos rfl], fun id h => by rw [hg] at h; exact h.elim⟩
    · rw [hg]; exact (hao.tight.below hb2).below hbl
    · rw [hg]; exact hio.tight.below hbl
    · have e : g.fm = fun _ => none := funext hfm
      rw [e, hg]; exact hmk
    · rw [hg] at h ⊢
      have h' : w.heap.size ≤ k ∧ k < w1.heap.size := h
      show (if k = w2.heap.size + 1 then 0 else if k = w2.heap.size then 4 else if k < w1.heap.size then 1 else 2) = 1
      rw [if_neg (by omega), if_neg (by omega), if_pos (by omega)]
    · rw [hg] at h ⊢
      have h' : w1.heap.size ≤ k ∧ k < w2.heap.size := h
      show (if k = w2.heap.size + 1 then 0 else if k = w2.heap.size then 4 else if k < w1.heap.size then 1 else 2) = 2
      rw [if_neg (by omega), if_neg (by omega), if_neg (by omega)]
  · have hc0 : cntP (fun _ : Nat => False) V = 0 := cntP_none V (fun _ _ h => h)
    rw [hg]
    exact ⟨⟨fun id => ⟨fun h => h.elim, fun ⟨s, h, _⟩ => h.elim⟩, fun id => ⟨fun h => h.elim, fun ⟨i, h, _⟩ => h.elim⟩, fun id h => h.elim, fun id h => h.elim, hc0.symm, fun i h => h.elim, fun i j h => h.elim⟩, fun s h => h.elim, fun s t h => h.elim, fun s h => h.elim, fun s h => h.elim, Nat.zero_le _, ⟨by show V ≤ _; omega, by show E ≤ _; omega⟩⟩
  · intro k hk
    rw [hg] at hk
    rcases hk with e | e | e | e | e | ⟨id, h, _⟩
    · omega
    · have e' : w.heap.size ≤ k ∧ k < w1.heap.size := e
      exact e'.1
    · have e' : w1.heap.size ≤ k ∧ k < w2.heap.size := e
      omega
    · simp [Value.ownBlock] at e
    · have e' : k = w2.heap.size := e
      omega
    · exact h.elim
set_option maxHeartbeats 4000000 in
set_option maxRecDepth 100000 in
theorem st_from (w : World) (V E last : Nat) (hV : V ≤ 4096) (hE : E ≤ 16384) (hl : last ≤ 9223372036854775807) :
    Calls Tryz.prog 41 #[.int .i64 (V : Int), .int .i64 (E : Int), .int .u64 (last : Int)] w (StNw w V E last) := by
  have HAN := Lib.hid (ar_new w E (by omega))
  have t1 : decide ((V : Int) < 0) = false := decide_eq_false (by omega)
  have t2 : decide ((4096 : Int) < (V : Int)) = false := decide_eq_false (by omega)
  have t3 : decide ((E : Int) < 0) = false := decide_eq_false (by omega)
  have t4 : decide ((16384 : Int) < (E : Int)) = false := decide_eq_false (by omega)
  have t5 : decide ((9223372036854775807 : Int) < (last : Int)) = false := decide_eq_false (by omega)
  have u2 : decide (4096 < V) = false := decide_eq_false (by omega)
  have u4 : decide (16384 < E) = false := decide_eq_false (by omega)
  have u5 : decide (9223372036854775807 < last) = false := decide_eq_false (by omega)
  have hmm := @run_makeMap Tryz.prog
  go_enter Tryz.func41, Tryz.ntmps41
  go_upto_region 6 with (go_at_call 79; refine HAN.out.mono ?_; rintro e w1 ⟨⟨ab, rfl, hao, hnab⟩, hb1⟩; have HAO := Lib.hid hao; have HNAB := Lib.hid hnab; have HB1 := Lib.hid hb1; clear hao hnab hb1)
  clear t1 t2 t3 t4 t5 u2 u4 u5
  have HIN := Lib.hid (in_new w1 V (by omega))
  go_upto_region 9 with (go_at_call 80; refine HIN.out.mono ?_; rintro e w2 ⟨⟨tb, rfl, hio, hntb⟩, hb2⟩; have HIO := Lib.hid hio; have HNTB := Lib.hid hntb; have HB2 := Lib.hid hb2; clear hio hntb hb2)
  clear HIN HAN
  have HFIN := Lib.hid (st_fresh (last := last) hV hE HAO.out HB1.out HIO.out HB2.out)
  go_wp2_with fail
  go_ret2
  exact HFIN.out
end Go.Proofs.YtlooaipipmiijaaGreat

namespace Go.Proofs.YtlooaipipmiijaaGreat
set_option linter.unusedVariables false
set_option linter.unusedSimpArgs false
open Go.RowKit Go.Sort
def encs {α : Type} (enc : α → List Value) (l : List α) : List Value := l.flatMap enc
theorem encs_length {α : Type} {enc : α → List Value} {k : Nat} (hk : ∀ x, (enc x).length = k) (l : List α) : (encs enc l).length = l.length * k := by
  unfold encs
  induction l with
  | nil => simp
  | cons a l ih => rw [List.flatMap_cons, List.length_append, hk, ih, List.length_cons, Nat.succ_mul]; omega
theorem encs_get {α : Type} {enc : α → List Value} {k : Nat} (hk : ∀ x, (enc x).length = k) (k0 : 0 < k) (l : List α) (t : Nat) (x : α) (hx : l[t / k]? = some x) : (encs enc l)[t]? = (enc x)[t % k]? := by
  induction l generalizing t with
  | nil => simp at hx
  | cons a l ih =>
    unfold encs
    rw [List.flatMap_cons]
    by_cases h : t < k
    · have h0 : t / k = 0 := Nat.div_eq_of_lt h
      rw [h0] at hx
      simp only [List.getElem?_cons_zero, Option.some.injEq] at hx
      subst hx
      rw [List.getElem?_append_left (by rw [hk]; exact h), Nat.mod_eq_of_lt h]
    · have h1 : t / k = (t - k) / k + 1 := by rw [← Nat.sub_add_cancel (Nat.le_of_not_lt h)]; rw [Nat.add_div_right _ k0]; simp
      rw [h1, List.getElem?_cons_succ] at hx
      rw [List.getElem?_append_right (by rw [hk]; omega), hk]
      have := ih (t - k) hx
      unfold encs at this
      rw [this]
      congr 1
      conv => rhs; rw [← Nat.sub_add_cancel (Nat.le_of_not_lt h), Nat.add_mod_right]
theorem flatK_encs {α : Type} [Inhabited α] {enc : α → List Value} {k : Nat} (hk : ∀ x, (enc x).length = k) (d : Array α) : (flatK enc k d).toList = encs enc d.toList := by
  apply List.ext_getElem?
  intro t
  by_cases ht : t < d.size * k
  · have k0 : 0 < k := by
      rcases Nat.eq_zero_or_pos k with h | h
      · subst h; simp at ht
      · exact h
    have h1 : t / k < d.size := (Nat.div_lt_iff_lt_mul k0).2 ht
    have hx : d.toList[t / k]? = some d[t / k]! := by
      rw [getElem!_pos d _ h1]; simp [h1]
    rw [encs_get hk k0 _ t _ hx]
    have h2 : t % k < (enc d[t / k]!).length := by rw [hk]; exact Nat.mod_lt _ k0
    have h3 : (flatK enc k d)[t]? = some (flatK enc k d)[t]! := by
      rw [getElem!_pos _ t (by simpa using ht), Array.getElem?_eq_getElem (by simpa using ht)]
    rw [Array.getElem?_toList, h3, get_flatK enc k d t ht, List.getElem?_eq_getElem h2, getElem!_pos (enc d[t / k]!) (t % k) h2]
  · rw [List.getElem?_eq_none (by rw [Array.length_toList, size_flatK]; omega), List.getElem?_eq_none (by rw [encs_length hk, Array.length_toList]; omega)]
theorem holdsK_of {α : Type} [Inhabited α] {enc : α → List Value} {k : Nat} (hk : ∀ x, (enc x).length = k) {w : World} {e : TypeId} {g cap : Nat} {l : List α} (h : w.ownsRow 0 e k (.slice (some ⟨g, 0, none⟩) l.length cap) l.length (encs enc l)) :
    HoldsK enc k w g 0 l.toArray := by
  rcases h.2 with ⟨h', _⟩ | ⟨g', cap', cur, h', _, hg, hnc, hcm, hs, htake⟩
  · simp at h'
  · simp only [Value.slice.injEq, Option.some.injEq, Addr.mk.injEq, and_true, true_and] at h'
    obtain ⟨rfl, rfl⟩ := h'
    intro j hj
    rw [Nat.zero_add]
    have hj' : j < l.length * k := by simpa using hj
    refine ⟨?_, by simp [World.frozen?, hg]⟩
    have hF : (flatK enc k l.toArray)[j]? = (encs enc l)[j]? := by
      rw [← Array.getElem?_toList, flatK_encs hk]
    have hl : (encs enc l)[j]? = some (flatK enc k l.toArray)[j]! := by
      rw [← hF, getElem!_pos _ j hj, Array.getElem?_eq_getElem hj]
    rw [← htake, List.getElem?_take, if_pos hj'] at hl
    show w.cell? ⟨g, j, none⟩ = some (id _)
    simp only [World.cell?, hg, id]
    simpa using hl
theorem owns_sorted {α : Type} [Inhabited α] {enc : α → List Value} {k : Nat} (hk : ∀ x, (enc x).length = k) {w : World} {e : TypeId} {g cap : Nat} {l l' : List α} (h : w.ownsRow 0 e k (.slice (some ⟨g, 0, none⟩) l.length cap) l.length (encs enc l))
    (hl : l'.length = l.length) (n : Nat) (os : Array Obj) : (sortWorldK enc k w g 0 n l'.toArray os).ownsRow 0 e k (.slice (some ⟨g, 0, none⟩) l'.length cap) l'.length (encs enc l') := by
  refine ⟨encs_length hk l', ?_⟩
  have hH := holdsK_of hk h
  rcases h.2 with ⟨h', _⟩ | ⟨g', cap', cur, h', hb, hg, hnc, hcm, hs, htake⟩
  · simp at h'
  · simp only [Value.slice.injEq, Option.some.injEq, Addr.mk.injEq, and_true, true_and] at h'
    obtain ⟨rfl, rfl⟩ := h'
    have hlt : g < w.heap.size := (Array.getElem?_eq_some_iff.1 hg).1
    refine .inr ⟨g, cap, putCells id 0 (flatK enc k l'.toArray) cur, rfl, hb, ?_, by omega, hcm, by simp [putCells, hs], ?_⟩
    · unfold sortWorldK grow putRowK putRow mapBlock
      simp only
      rw [Array.getElem?_append_left (by simpa [Go.Sort.ahead] using hlt), Array.getElem?_modify, if_pos rfl]
      have : (Go.Sort.ahead w n).heap[g]? = some (Obj.cells cur e (0, 0)) := hg
      rw [this]; rfl
    · apply List.ext_getElem?
      intro j
      rw [List.getElem?_take]
      by_cases hj : j < l'.length * k
      · have hjc : j < cur.size := by rw [hs]; exact Nat.lt_of_lt_of_le hj (Nat.mul_le_mul_right _ (by omega))
        rw [if_pos hj]
        have hF : (encs enc l')[j]? = some (flatK enc k l'.toArray)[j]! := by
          rw [← show (flatK enc k l'.toArray).toList = encs enc l' from flatK_encs hk _, Array.getElem?_toList, getElem!_pos _ j (by simpa using hj), Array.getElem?_eq_getElem (by simpa using hj)]
        rw [hF]
        have h2 : j < l'.length * k := hj
        simp [putCells, Array.getElem?_mapIdx, hjc, h2]
      · rw [if_neg hj, List.getElem?_eq_none (by rw [encs_length hk]; omega)]
theorem mod_sorted {α : Type} [Inhabited α] {enc : α → List Value} {k : Nat} (w : World) (g n : Nat) (d : Array α) (os : Array Obj) : Mod (fun x => x = g) w (sortWorldK enc k w g 0 n d os) := by
  refine ⟨rfl, rfl, rfl, ?_, fun x hx hne => ?_⟩
  · unfold sortWorldK grow; simp [putRowK, Go.Sort.ahead]
  · unfold sortWorldK grow putRowK putRow mapBlock
    simp only
    rw [Array.getElem?_append_left (by simpa [Go.Sort.ahead] using hx), Array.getElem?_modify, if_neg (fun e => hne e.symm)]
    rfl
end Go.Proofs.YtlooaipipmiijaaGreat

namespace Go.Proofs.YtlooaipipmiijaaGreat
set_option linter.unusedVariables false
set_option linter.unusedSimpArgs false
open Go.RowKit Go.Shelf Go.Lib Go.Sort
set_option maxHeartbeats 1000000 in
theorem nanU (x : Nat) (w : World) : Calls Tryz.prog 137 #[.int .u64 x] w (Ret (.bool false) w) := by
  have t1 : ((x : Int) != (x : Int)) = false := by simp
  go_enter Tryz.func137, Tryz.ntmps137
  go_wp2
  go_ret
  exact ⟨rfl, rfl⟩
def cmpN (x y : Nat) : Int := if x < y then -1 else if y < x then 1 else 0
set_option maxHeartbeats 1000000 in
theorem compareU (x y : Nat) (w : World) : Calls Tryz.prog 117 #[.int .u64 x, .int .u64 y] w (Ret (.int .i64 (cmpN x y)) w) := by
  rcases Nat.lt_trichotomy x y with h | h | h
  · have t1 : decide ((x : Int) < (y : Int)) = true := decide_eq_true (by omega)
    have u1 : decide (x < y) = true := decide_eq_true h
    have HR : Hid (cmpN x y = -1) := by show _ = _; unfold cmpN; rw [if_pos h]
    clear h
    go_enter Tryz.func117, Tryz.ntmps117
    go_wp2_with (go_at_call 137; refine (nanU _ _).mono ?_; rintro e w' ⟨rfl, rfl⟩)
    go_ret
    rw [HR.out]
    exact ⟨rfl, rfl⟩
  · subst h
    have t1 : decide ((x : Int) < (x : Int)) = false := decide_eq_false (by omega)
    have u1 : decide (x < x) = false := decide_eq_false (by omega)
    have HR : Hid (cmpN x x = 0) := by show _ = _; unfold cmpN; rw [if_neg (by omega), if_neg (by omega)]
    go_enter Tryz.func117, Tryz.ntmps117
    go_wp2_with (go_at_call 137; refine (nanU _ _).mono ?_; rintro e w' ⟨rfl, rfl⟩)
    go_ret
    rw [HR.out]
    exact ⟨rfl, rfl⟩
  · have t1 : decide ((x : Int) < (y : Int)) = false := decide_eq_false (by omega)
    have t2 : decide ((y : Int) < (x : Int)) = true := decide_eq_true (by omega)
    have u1 : decide (x < y) = false := decide_eq_false (by omega)
    have u2 : decide (y < x) = true := decide_eq_true h
    have HR : Hid (cmpN x y = 1) := by show _ = _; unfold cmpN; rw [if_neg (by omega), if_pos h]
    clear h
    go_enter Tryz.func117, Tryz.ntmps117
    go_wp2_with (go_at_call 137; refine (nanU _ _).mono ?_; rintro e w' ⟨rfl, rfl⟩)
    go_ret
    rw [HR.out]
    exact ⟨rfl, rfl⟩
set_option maxHeartbeats 1000000 in
set_option maxRecDepth 100000 in
theorem seqCmp (r s : Lr) (w : World) : Calls Tryz.prog 116 #[.agg (lrL r).toArray, .agg (lrL s).toArray] w (fun e w' => e = .returned (.int .i64 (cmpN r.seq s.seq)) ∧ ∃ q os', w' = Go.Sort.grow (w.drewN q) os') := by
  have HH : Hid (∃ q os', (w.alloc (.cells (lrL r).toArray 63)).alloc (.cells (lrL s).toArray 63) = Go.Sort.grow (w.drewN q) os') :=
    ⟨0, _, by rw [Go.Sort.alloc_eq_grow, Go.Sort.alloc_eq_grow, Go.Sort.grow_grow]; rfl⟩
  have HC : Hid (∀ W, Calls Tryz.prog 117 #[.int .u64 r.seq, .int .u64 s.seq] W (Ret (.int .i64 (cmpN r.seq s.seq)) W)) := fun W => compareU r.seq s.seq W
  unfold lrL at *
  go_enter Tryz.func116, Tryz.ntmps116
  go_wp2_with (go_at_call 117; refine (HC.out _).mono ?_; rintro e w' ⟨rfl, rfl⟩)
  go_ret
  exact ⟨rfl, HH.out⟩
def encR (r : Lr) : List Value := lrL r
theorem seqLt {L : List Lr} (x y : {r // r ∈ L}) : ltOf (fun x y : {r // r ∈ L} => cmpN x.1.seq y.1.seq) x y = decide (x.1.seq < y.1.seq) := by
  show decide (cmpN x.1.seq y.1.seq < 0) = _
  unfold cmpN
  by_cases h : x.1.seq < y.1.seq
  · rw [decide_eq_true h, if_pos h]; rfl
  · rw [decide_eq_false h, if_neg h]
    split <;> rfl
theorem seqSwo {L : List Lr} : SWO (ltOf (fun x y : {r // r ∈ L} => cmpN x.1.seq y.1.seq)) := by
  refine ⟨fun x => ?_, fun x y z h1 h2 => ?_, fun x y z h1 h2 => ?_⟩
  · rw [seqLt]; exact decide_eq_false (Nat.lt_irrefl _)
  · rw [seqLt] at *
    exact decide_eq_true (Nat.lt_trans (of_decide_eq_true h1) (of_decide_eq_true h2))
  · rw [seqLt] at *
    have a1 := of_decide_eq_false h1
    have a2 := of_decide_eq_false h2
    exact decide_eq_false (by omega)
structure SoL (w : World) (v : Value) (L : List Lr) (e : Ending) (w' : World) : Prop where
  val : e = .returned (.tuple #[])
  ex : ∃ S : List Lr, S.Perm L ∧ S.Pairwise (fun a b => a.seq ≤ b.seq) ∧ w'.ownsRow 0 63 7 v S.length (encs encR S)
  mod : Mod (fun x => v.ownBlock = some x) w w'
theorem Tryz.isAgg63J (w : World) : (isAgg 63).run Tryz.prog w = .ok true w := by kernel_rfl
theorem Tryz.sizeOf63J (w : World) : (Go.sizeOf 63).run Tryz.prog w = .ok 7 w := by kernel_rfl
theorem encs_attach (L : List Lr) (l : List {r // r ∈ L}) : encs (fun x : {r // r ∈ L} => encR x.1) l = encs encR (l.map Subtype.val) := by
  unfold encs
  rw [List.flatMap_map]
set_option maxHeartbeats 1000000 in
theorem sortL_ok (w : World) (v : Value) (L : List Lr) (h : w.ownsRow 0 63 7 v L.length (encs encR L)) (hl : L.length ≤ 65536) (hi : ∀ r, r ∈ L → ∀ s, s ∈ L → r.seq = s.seq → r = s) :
    Calls Tryz.prog 115 #[v, .func (.func 116) #[] #[]] w (SoL w v L) := by
  obtain ⟨ao, cap, rfl⟩ := owns_slice h
  by_cases h0 : L.length = 0
  · have hcon := AnyF.slices_SortFunc_none Tryz.sortLive ao cap (.func (.func 116) #[] #[]) w
    change Calls Tryz.prog 115 _ _ _ at hcon
    have hi : L = [] := List.eq_nil_of_length_eq_zero h0
    subst hi
    refine hcon.mono ?_
    rintro e w' ⟨rfl, rfl⟩
    exact ⟨rfl, ⟨[], List.Perm.refl _, List.Pairwise.nil, h⟩, Mod.refl _ _⟩
  · obtain ⟨g, cap', hv, h1, h2, h3, h4, h5⟩ := owns_form h (by omega)
    injection hv with e1 _ e3
    subst e1; subst e3
    have hne : ∃ x, x ∈ L := ⟨L[0]'(by omega), List.getElem_mem _⟩
    obtain ⟨x0, hx0⟩ := hne
    letI : Inhabited {r // r ∈ L} := ⟨⟨x0, hx0⟩⟩
    have eg : ∀ args w, (callFunc 116 args).run Tryz.prog w = .ok (.enter 116 args) w := enters_of Tryz.func116 (by kernel_rfl) rfl
    have hh : w.ownsRow 0 63 7 (.slice (some ⟨g, 0, none⟩) L.attach.length cap) L.attach.length (encs (fun x : {r // r ∈ L} => encR x.1) L.attach) := by
      rw [encs_attach, List.attach_map_subtype_val, List.length_attach]; exact h
    have hcon := AnyQ.slices_SortFunc_total Tryz.sortLive 7 Tryz.isAgg63J Tryz.sizeOf63J (fun x : {r // r ∈ L} => encR x.1) (fun _ => rfl) (fun x v hv => lrL_one x.1 v hv) (fun x y : {r // r ∈ L} => cmpN x.1.seq y.1.seq) seqSwo 116 #[] g 0 cap L.attach.toArray w eg (fun _ _ _ _ x y => seqCmp x.1 y.1 _)
      (holdsK_of (enc := fun x : {r // r ∈ L} => encR x.1) (k := 7) (fun _ => rfl) hh) h3 (by simp; omega) (fun x y h1 h2 => by
        rw [seqLt] at h1 h2
        exact Subtype.ext (hi x.1 x.2 y.1 y.2 (by have := of_decide_eq_false h1; have := of_decide_eq_false h2; omega)))
    change Calls Tryz.prog 115 _ _ _ at hcon
    rw [List.size_toArray, List.length_attach] at hcon
    refine hcon.mono ?_
    rintro e w' ⟨rfl, n, os, rfl⟩
    rw [List.toList_toArray]
    have p1 : (L.attach.mergeSort fun x y => !ltOf (fun x y : {r // r ∈ L} => cmpN x.1.seq y.1.seq) y x).Perm L.attach := List.mergeSort_perm _ _
    have p2 : ((L.attach.mergeSort fun x y => !ltOf (fun x y : {r // r ∈ L} => cmpN x.1.seq y.1.seq) y x).map Subtype.val).Perm L := by
      have := p1.map Subtype.val
      rw [List.attach_map_subtype_val] at this
      exact this
    have ho := owns_sorted (enc := fun x : {r // r ∈ L} => encR x.1) (k := 7) (fun _ => rfl) hh (l' := L.attach.mergeSort fun x y => !ltOf (fun x y : {r // r ∈ L} => cmpN x.1.seq y.1.seq) y x) p1.length_eq n os
    refine ⟨rfl, ⟨_, p2, ?_, ?_⟩, (mod_sorted w g n _ os).mono (fun x _ hx => by rw [hx]; rfl)⟩
    · have h2 := List.pairwise_mergeSort (le := fun x y => !ltOf (fun x y : {r // r ∈ L} => cmpN x.1.seq y.1.seq) y x) (fun a b c hab hbc => by
        simp only [seqLt, Bool.not_eq_true', decide_eq_false_iff_not] at *
        omega) (fun a b => by
        simp only [seqLt, Bool.or_eq_true, Bool.not_eq_true', decide_eq_false_iff_not]
        omega) L.attach
      rw [List.pairwise_map]
      refine List.Pairwise.imp (fun {a b} hab => ?_) h2
      simp only [seqLt, Bool.not_eq_true', decide_eq_false_iff_not] at hab
      omega
    · rw [encs_attach, p1.length_eq, List.length_attach] at ho
      rw [p2.length_eq]
      exact ho
end Go.Proofs.YtlooaipipmiijaaGreat

namespace Go.Proofs.YtlooaipipmiijaaGreat
set_option linter.unusedVariables false
set_option linter.unusedSimpArgs false
open Go.RowKit
theorem cnt_filter {P : Nat → Prop} [DecidablePred P] : ∀ n, cntP P n = ((List.range n).filter fun x => decide (P x)).length
  | 0 => rfl
  | n + 1 => by
    rw [List.range_succ, List.filter_append, List.length_append, ← cnt_filter n]
    by_cases c : P n
    · rw [cntP_yes c]; simp [c]
    · rw [cntP_no c]; simp [c]
theorem cnt_list {P : Nat → Prop} {n : Nat} {l : List Nat} (h1 : l.Pairwise (· < ·)) (h2 : ∀ x, x ∈ l ↔ P x) (h3 : ∀ x, P x → x < n) : cntP P n = l.length := by
  classical
  rw [cnt_filter]
  refine (List.Perm.length_eq ?_)
  refine (List.perm_ext_iff_of_nodup ?_ ?_).2 fun x => ?_
  · exact List.Pairwise.filter _ List.nodup_range
  · exact List.Pairwise.imp (fun {a b} (h : a < b) => by omega) h1
  · rw [List.mem_filter, List.mem_range, h2, decide_eq_true_eq]
    exact ⟨fun h => h.2, fun h => ⟨h3 x h, h⟩⟩
theorem encs_snoc (L : List Lr) (r : Lr) : encs encR (L ++ [r]) = encs encR L ++ lrL r := by
  unfold encs
  rw [List.flatMap_append, List.flatMap_singleton]
  rfl
structure StLs (w : World) (g : SG) (e : Ending) (w' : World) : Prop where
  ex : ∃ v, ∃ S : List Lr, e = .returned v ∧ (∀ r, r ∈ S ↔ ∃ s, g.Lv s ∧ g.R s = r) ∧ S.Pairwise (fun a b => a.seq ≤ b.seq) ∧ S.length = cntP g.Lv g.E ∧ w'.ownsRow 0 63 7 v S.length (encs encR S) ∧ ∀ k, v.ownBlock = some k → w.heap.size ≤ k
  bel : Below w.heap.size w w'
set_option maxHeartbeats 8000000 in
set_option maxRecDepth 100000 in
theorem st_list (w : World) (b : Nat) (g : SG) (h : StM w b g) (hl : StL g) : Calls Tryz.prog 77 #[.pointer (some ⟨b, 0, none⟩)] w (StLs w g) := by
  have HL := Lib.hid hl
  have H := Lib.hid h
  have HV := Lib.hid (st_valid b g.mb w h.s6)
  have HAL := Lib.hid (ar_list w g.ab g.E g.beg g.Lv g.FA h.ar)
  have c3 := h.s3
  clear h hl
  go_enter Tryz.func77, Tryz.ntmps77
  go_upto_region 4 with (go_at_call 58; refine HV.out.mono ?_; rintro e w' ⟨rfl, rfl⟩)
  go_wp2_with (go_at_call 114; refine HAL.out.mono ?_; rintro e w1 ⟨⟨v, l, rfl, hm, hp, hll, ho, hn⟩, hb⟩; have HM := Lib.hid hm; have HP := Lib.hid hp; have HO := Lib.hid ho; have HN := Lib.hid hn; have HB := Lib.hid hb; obtain ⟨ao, cp, rfl⟩ := owns_slice ho; clear hm hp ho hn hb)
  clear c3 HV HAL
  obtain ⟨n, HLN⟩ : ∃ n, Hid (l.length = n) := ⟨_, rfl⟩
  rw [HLN.out] at HO hll
  simp only [HLN.out]
  go_loopw [3, 15] (fun s3 s15 wr => ∃ k : Nat, k ≤ n ∧ s15 = .int .i64 (k : Int) ∧ wr.ownsRow 0 63 7 s3 k (encs encR ((l.take k).map g.R)) ∧ (∀ q, s3.ownBlock = some q → w1.heap.size ≤ q) ∧ Below w1.heap.size w1 wr) (fun _ s15 _ => n - (intOf s15).toNat)
  case atStart => exact ⟨0, Nat.zero_le _, rfl, World.ownsRow_nil _ _ _ _, fun q e => by simp [Value.ownBlock] at e, Below.refl _ _⟩
  case round =>
    obtain ⟨k, hk, rfl, hor, hnw, hbr⟩ := hrel
    have HBR := Lib.hid hbr
    have HNW := Lib.hid hnw
    obtain ⟨ao3, cp3, rfl⟩ := owns_slice hor
    have HOR := Lib.hid hor
    clear hbr hnw hor
    by_cases hlt : k < n
    · have t1 : decide ((k : Int) < (n : Int)) = true := decide_eq_true (by omega)
      have t2 : decide (k < n) = true := decide_eq_true hlt
      have hwk : IntKind.i64.wrap ((k : Int) + 1) = (k : Int) + 1 := IntWalk.i64_in _ (by omega)
      obtain ⟨slot, hsl⟩ : ∃ s, l[k]? = some s := ⟨l[k]'(by rw [HLN.out]; exact hlt), List.getElem?_eq_getElem (by rw [HLN.out]; exact hlt)⟩
      have HSL := Lib.hid hsl
      have hsv : g.Lv slot := (HM.out slot).1 (List.mem_of_getElem? hsl)
      obtain ⟨g3, cap3, hv3, _, _, hg3, hc3, _⟩ := owns_form HO.out (by omega)
      injection hv3 with q1 _ q3
      subst q1 q3
      have cl : wr.cell? ⟨g3, k, none⟩ = some (.int .i64 (slot : Int)) := by
        rw [HBR.out.cell (p := ⟨g3, k, none⟩) hg3, hc3 k (by omega)]
        exact natV64_get hsl
      have HMW := Lib.hid ((H.out.below HB.out).below HBR.out)
      have hsn := HL.out.lvn slot hsv
      have hnl := HL.out.nl
      obtain ⟨lb, cap, hlv, _, _, _, _, _⟩ := owns_form HMW.out.row (by omega)
      have c5 := HMW.out.s5
      rw [hlv] at c5
      have HRW := HMW.out.row
      rw [hlv] at HRW
      have HRG : Hid (wr.rangeAt lb (slot * 7) (lrL (g.R slot))) := by
        intro j y hy
        have hj : j < 7 := (List.getElem?_eq_some_iff.1 hy).1
        rw [HRW.cellAt (slot * 7 + j) (by omega), lrRow_get (by omega) hj, ← lrL_get _ hj]
        exact hy
      have ti : (slot : Int) < (g.nl : Int) := by omega
      have ti2 : (k : Int) < (n : Int) := by omega
      have HTK : Hid ((l.take (k + 1)).map g.R = (l.take k).map g.R ++ [g.R slot]) := by
        show _ = _
        rw [List.take_add_one, hsl, List.map_append]; rfl
      have HKN := Lib.hid hlt
      clear hlv HRW hsl hc3 hg3 hlt
      generalize hr : g.R slot = r at *
      have HRH : Hid (wr.rangeAt lb (slot * 7) [.int .i64 (r.slot : Int), .int .u64 (r.seq : Int), .int .u64 (r.u : Int), .int .u64 (r.v : Int), .int .i64 r.wt, .int .i64 r.t, .int .i64 r.ex]) := HRG.out
      have HOW : Hid ((wr.alloc (.cells #[.int .i64 (r.slot : Int), .int .u64 (r.seq : Int), .int .u64 (r.u : Int), .int .u64 (r.v : Int), .int .i64 r.wt, .int .i64 r.t, .int .i64 r.ex] 63)).ownsRow 0 63 7 (.slice ao3 k cp3) k (encs encR ((l.take k).map g.R))) := HOR.out.alloc _
      have HNS := Lib.hid (news_new wr 63 [.int .i64 (r.slot : Int), .int .u64 (r.seq : Int), .int .u64 (r.u : Int), .int .u64 (r.v : Int), .int .i64 r.wt, .int .i64 r.t, .int .i64 r.ex])
      have HBX := Lib.hid (HBR.out.alloc HBR.out.size (.cells #[.int .i64 (r.slot : Int), .int .u64 (r.seq : Int), .int .u64 (r.u : Int), .int .u64 (r.v : Int), .int .i64 r.wt, .int .i64 r.t, .int .i64 r.ex] 63))
      generalize hrows : encs encR ((l.take k).map g.R) = rows at *
      have HROWS := Lib.hid hrows
      clear hrows
      go_wp2_with (first | (with_reducible refine wpList_load_mid rfl 63 _ rfl lb (slot * 7) rfl [.int .i64 (r.slot : Int), .int .u64 (r.seq : Int), .int .u64 (r.u : Int), .int .u64 (r.v : Int), .int .i64 r.wt, .int .i64 r.t, .int .i64 r.ex] _ HRH.out Tryz.underlying63 rfl (by kernel_rfl) ?_) | (at_builtin; apply keepIt2))
      apply Lib.hid
      refine (wpList_appendB 63 (.agg #[.int .i64 0, .int .u64 0, .int .u64 0, .int .u64 0, .int .i64 0, .int .i64 0, .int .i64 0]) 7 56 Tryz.underlying79 Tryz.infoLive rfl (by decide) (.slice ao3 k cp3) k rows rfl HOW.out ⟨wr.heap.size, 0, none⟩ 1 1 [.int .i64 (r.slot : Int), .int .u64 (r.seq : Int), .int .u64 (r.u : Int), .int .u64 (r.v : Int), .int .i64 r.wt, .int .i64 r.t, .int .i64 r.ex] rfl rfl HNS.out (lrL_one r) (by unfold maxLen; omega) (by omega) ?_)
      intro v' w5 ho hg hk
      obtain ⟨ao2, cp2, rfl⟩ := owns_slice ho
      have HGO : Hid (w5.ownsRow 0 63 7 (.slice ao2 (k + 1) cp2) (k + 1) (encs encR ((l.take (k + 1)).map g.R))) := by
        show World.ownsRow _ _ _ _ _ _ _
        rw [HTK.out, encs_snoc, HROWS.out]
        exact ho
      have HGB : Hid (Below w1.heap.size w1 w5) := HBX.out.grown hg (by rw [World.alloc, Array.size_push]; have := HBR.out.size; omega) fun q e => HNW.out q e
      have HGN : Hid (∀ q, (Value.slice ao2 (k + 1) cp2).ownBlock = some q → w1.heap.size ≤ q) := by
        show ∀ q, _
        intro q e
        rcases hk q e with e' | e'
        · exact HNW.out q e'
        · rw [World.alloc, Array.size_push] at e'
          have := HBR.out.size
          omega
      clear ho hg hk HOW HNS HBX HOR HRH HRG
      go_wp2_with fail
      go_roundw
      case rel => exact ⟨k + 1, HKN.out, rfl, HGO.out, HGN.out, HGB.out⟩
      case measure => have := HKN.out; simp [intOf]; omega
    · have t1 : decide ((k : Int) < (n : Int)) = false := decide_eq_false (by omega)
      have t2 : decide (k < n) = false := decide_eq_false hlt
      have hkn : k = n := by omega
      subst hkn
      have HSO : Hid (Calls Tryz.prog 115 #[.slice ao3 k cp3, .func (.func 116) #[] #[]] wr (SoL wr (.slice ao3 k cp3) (l.map g.R))) := by
        refine sortL_ok wr _ _ ?_ ?_ ?_
        · rw [List.length_map, HLN.out]
          have := HOR.out
          rwa [show l.take k = l by rw [← HLN.out]; exact List.take_length] at this
        · rw [List.length_map, HLN.out]; omega
        · intro r hr s hs e
          obtain ⟨x, hx, rfl⟩ := List.mem_map.1 hr
          obtain ⟨y, hy, rfl⟩ := List.mem_map.1 hs
          have e1 := HL.out.seq x y ((HM.out x).1 hx) ((HM.out y).1 hy) e
          rw [e1]
      have HCN : Hid (cntP g.Lv g.E = k) := by
        show _ = _
        rw [← HLN.out]
        exact cnt_list HP.out HM.out fun x hx => HL.out.lvE x hx
      have HHS : Hid (w.heap.size ≤ w1.heap.size) := HB.out.size
      have HBB : Hid (Below w.heap.size w wr) := HB.out.trans (HBR.out.mono HB.out.size)
      clear HOR
      go_upto_region 9 with fail
      go_wp2_with (go_at_call 115; refine HSO.out.mono ?_; rintro e w6 ⟨rfl, hs, hmd⟩; have HS6 := Lib.hid hs; have HMD := Lib.hid hmd; clear hs hmd)
      go_ret
      obtain ⟨S, hp, hw, ho⟩ := HS6.out
      have hlen : S.length = k := by rw [hp.length_eq, List.length_map, HLN.out]
      have hbb : Below w.heap.size w w6 := HBB.out.trans (HMD.out.below HBB.out.size fun x e => Nat.le_trans HHS.out (HNW.out x e))
      refine ⟨⟨_, S, rfl, fun r => ?_, hw, ?_, ho, fun q e => Nat.le_trans HHS.out (HNW.out q e)⟩, hbb⟩
      · rw [hp.mem_iff, List.mem_map]
        exact ⟨fun ⟨s, h1, h2⟩ => ⟨s, (HM.out s).1 h1, h2⟩, fun ⟨s, h1, h2⟩ => ⟨s, (HM.out s).2 h1, h2⟩⟩
      · rw [hlen, HCN.out]
end Go.Proofs.YtlooaipipmiijaaGreat

namespace Go.Proofs.YtlooaipipmiijaaGreat
set_option linter.unusedVariables false
set_option linter.unusedSimpArgs false
open Go.RowKit Go.Shelf
open Go.Maps (Keyed)
def RgK (q : IntKind) (w : World) (P : Program) (k : TypeId) (b r c : Nat) (F : Int → Option Value) (left : Int → Bool) (cnt : Nat) : Prop :=
  ∃ (D : DataW Value) (L : Lit → Bool), w.ranges P k mapRK b r c D L cnt ∧ Maps.size D = c ∧ (∀ i : Int, L (.int q i) = left i) ∧ (∀ i : Int, Maps.has D (.int q i) = (F i).isSome ∧ ∀ z, D.atKey (.int q i) (.held z) = .held ((F i).getD z)) ∧ ∀ i, left i = true → (F i).isSome = true
section
variable {q : IntKind} {w w' : World} {P : Program} {k t e : TypeId} {b r c : Nat} {F : Int → Option Value} {left : Int → Bool} {cnt : Nat}
theorem RgK.map (h : RgK q w P k b r c F left cnt) : MapK q w P k b c F := by
  obtain ⟨D, L, h1, h2, h3, h4, h5⟩ := h
  exact ⟨D, h1.owns, h2, h4⟩
theorem RgK.ne (h : RgK q w P k b r c F left cnt) : r ≠ b := by
  obtain ⟨D, L, h1, _⟩ := h
  exact h1.ne
theorem RgK.lt (h : RgK q w P k b r c F left cnt) : r < w.heap.size := by
  obtain ⟨D, L, h1, _⟩ := h
  exact h1.lt
theorem RgK.left_eq (h : RgK q w P k b r c F left cnt) : w.rangeLeft b r = cnt := by
  obtain ⟨D, L, h1, _⟩ := h
  exact h1.left_eq
theorem RgK.heap (h : RgK q w P k b r c F left cnt) (e1 : w'.heap[b]? = w.heap[b]?) (e2 : w'.heap[r]? = w.heap[r]?) : RgK q w' P k b r c F left cnt := by
  obtain ⟨D, L, ⟨es, clock, since, seen, c0, hb, F, hs, hD, hr, rest⟩, h2⟩ := h
  exact ⟨D, L, ⟨es, clock, since, seen, c0, e1.trans hb, F, hs, hD, e2.trans hr, rest⟩, h2⟩
theorem RgK.mod {G : Nat → Prop} (h : RgK q w P k b r c F left cnt) (m : Mod G w w') (h1 : ¬ G b) (h2 : ¬ G r) : RgK q w' P k b r c F left cnt :=
  h.heap (m.block b h.map.lt h1) (m.block r h.lt h2)
theorem RgK.below (h : RgK q w P k b r c F left cnt) (m : Below w.heap.size w w') : RgK q w' P k b r c F left cnt :=
  h.heap (m.block b h.map.lt) (m.block r h.lt)
theorem wpList_rangeK {ops : Array Oper} {rest : List Oper} {o : Oper} {a : Act} {Q : Exit → Act → World → Prop}
    (hg : o.guard = none) (m : Operand) (hop : o.op = Op.range t m) (hk : P.underlying k = some (.int q)) (ht : P.underlying t = some (.map k e)) (hm : a.eval m = .map (some b)) (h : MapK q w P k b c F)
    (hK : ∀ w', RgK q w' P k b w.heap.size c F (fun i => (F i).isSome) c → Below w.heap.size w w' → wpList P ops Q rest (a.put o.dst (.pointer (some ⟨w.heap.size, 0, none⟩))) w') :
    wpList P ops Q (o :: rest) a w := by
  obtain ⟨D, h1, h2, h3⟩ := h
  refine wpList_range_own w hg m t hop k e (Maps.int_keyed hk) ht mapRK b c D hm h1 ?_
  intro w' r1 r2 r3
  rw [h2] at r1
  exact hK w' ⟨D, _, r1, h2, fun i => (h3 i).1, h3, fun i hi => hi⟩ ⟨r2.os, r2.tape, r2.output, r2.size, fun i hi => r2.block i hi (by simp)⟩
theorem wpList_nextK {ops : Array Oper} {rest : List Oper} {o : Oper} {a : Act} {Q : Exit → Act → World → Prop}
    (hg : o.guard = none) (it : Operand) (hop : o.op = Op.next it false) (hk : P.underlying k = some (.int q)) (hit : a.eval it = .pointer (some ⟨r, 0, none⟩)) (h : RgK q w P k b r c F left cnt)
    (hDone : cnt = 0 → (∀ i, left i = false) → wpList P ops Q rest (a.put o.dst (.tuple #[.bool false])) w)
    (hMore : ∀ (x : Int) (v : Value) (w' : World) (cnt' : Nat), (Lit.int q x).wf = true → left x = true → F x = some v → RgK q w' P k b r c F (fun i => left i && !decide (i = x)) cnt' → cnt' < cnt →
      Mod (fun y => y = r) w w' → w'.heap.size = w.heap.size → (Instr.entry (.pointer (some ⟨r, 0, none⟩))).run P w' = .ok (.tuple #[.int q x, v]) w' → wpList P ops Q rest (a.put o.dst (.tuple #[.bool true, .int q x, v])) w') :
    wpList P ops Q (o :: rest) a w := by
  obtain ⟨D, L, h1, h2, h3, h4, h5⟩ := h
  refine wpList_next_ranges w hg it hop k (Maps.int_keyed hk) mapRK (Value.int q) (fun v : Value => v) (fun key kl hkey => by obtain ⟨x, rfl, _⟩ := Maps.keyOf_int_inv hk hkey; exact ⟨x, rfl⟩) (fun v y hv => ⟨v, rfl⟩) b r c D L cnt hit h1 (fun hc hl => hDone hc fun i => (h3 i).symm.trans (hl _)) ?_
  intro x v kl y w' cnt' hkey hlk hv hat hrg hlt hgr hsz hen
  obtain ⟨x', ex, rfl, hwx⟩ := Maps.keyOf_int_inv hk hkey
  cases ex
  cases hv
  have hl : left x = true := (h3 x).symm.trans hlk
  obtain ⟨v0, hv0⟩ := Option.isSome_iff_exists.1 (h5 x hl)
  have hvv : v = v0 := by
    have e1 := (h4 x).2 undef
    rw [hat, hv0] at e1
    injection e1
  subst hvv
  refine hMore x v w' cnt' hwx hl hv0 ⟨D, _, hrg, h2, fun i => ?_, h4, fun i hi => h5 i ?_⟩ hlt ((Mod.refl _ w).grown hgr (fun y hy _ => by injection hy with hy; exact hy.symm)) hsz hen
  · show (L (.int q i) && !(Lit.int q i).sameKey (.int q x)) = (left i && !decide (i = x))
    rw [h3]
    by_cases e : i = x
    · subst e
      rw [WideAt.sameKey_self (show WideAt.IsKeyLit (Lit.int q i) from trivial), decide_eq_true rfl]
    · rw [Maps.sameKey_ne (fun e1 => e (by injection e1)), decide_eq_false e]
  · exact (Bool.and_eq_true_iff.1 hi).1
end
structure ClM (q : IntKind) (w : World) (P : Program) (k : TypeId) (c : Nat) (F : Int → Option Value) (e : Ending) (w' : World) : Prop where
  ret : e = .returned (.map (some w.heap.size))
  map : MapK q w' P k w.heap.size c F
  bel : Below w.heap.size w w'
theorem clone_inc {w : World} {b c : Nat} {F : Int → Option Value} (h : MapK .u64 w Tryz.prog 25 b c F) : Calls Tryz.prog 68 #[.map (some b)] w (ClM .u64 w Tryz.prog 25 c F) := by
  obtain ⟨D, h1, h2, h3⟩ := h
  have hcon := AnyW.maps_Clone_owns Tryz.cloneInc 25 mapRK b c D w h1
  change Calls Tryz.prog 68 _ _ _ at hcon
  refine hcon.mono ?_
  rintro e w' ⟨rfl, k1, _, kB⟩
  exact ⟨rfl, ⟨D, k1, h2, h3⟩, kB⟩
end Go.Proofs.YtlooaipipmiijaaGreat
