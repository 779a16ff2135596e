/- Several texts in one: HeapA, HeapB, HeapC. -/
import Derived.Test.YtlooaipipmiijaaGreatZX05
import Derived.Test.YtlooaipipmiijaaGreatZX13
import Derived.BigRegion
namespace Go.Proofs.YtlooaipipmiijaaGreat
set_option linter.unusedVariables false
set_option linter.unusedSimpArgs false
open Go.RowKit
theorem Tryz.eqlHeap (a : Addr) (w : World) : (binOp .eql 112 (.pointer (some a)) (.pointer (some a))).run Tryz.prog w = .ok (.bool true) w := by
  have hj : ∃ j, Tryz.prog.info? 183 = some j := Option.isSome_iff_exists.1 (by kernel_rfl)
  obtain ⟨j, hj⟩ := hj
  exact run_eql_ptr_same w a Tryz.underlying112 hj
set_option maxHeartbeats 400000 in
theorem valid_ok (b : Nat) (w : World) (h0 : w.cell? ⟨b, 0, none⟩ = some (.pointer (some ⟨b, 0, none⟩))) :
    Calls Tryz.prog 108 #[.pointer (some ⟨b, 0, none⟩)] w (Ret (.bool true) w) := by
  have he := Tryz.eqlHeap ⟨b, 0, none⟩ w
  go_enter Tryz.func108, Tryz.ntmps108
  go_wp2
  go_ret
  exact ⟨rfl, rfl⟩
def hasB (i n : Int) : Bool := decide (0 ≤ i ∧ i < n)
set_option maxHeartbeats 400000 in
theorem has_any (b : Nat) (i n : Int) (w : World) (h0 : w.cell? ⟨b, 1, none⟩ = some (.int .i64 n)) :
    Calls Tryz.prog 125 #[.pointer (some ⟨b, 0, none⟩), .int .i64 i] w (Ret (.bool (hasB i n)) w) := by
  go_enter Tryz.func125, Tryz.ntmps125
  go_wp2
  all_goals
    go_ret
    exact ⟨ret_bool (by unfold hasB; simp; omega), rfl⟩
set_option maxHeartbeats 400000 in
theorem place_some (b pb np q i : Nat) (p : Int) (w : World) (h0 : w.cell? ⟨b, 3, none⟩ = some (.slice (some ⟨pb, 0, none⟩) np np))
   (hn : i / 64 < np) (hnp : np ≤ 1024) (h1 : w.cell? ⟨pb, i / 64, none⟩ = some (.pointer (some ⟨q, 0, none⟩)))
   (h2 : w.cell? ⟨q, i % 64, none⟩ = some (.int .i64 p)) (hp : 0 ≤ p) (hp2 : p ≤ 65537) :
    Calls Tryz.prog 126 #[.pointer (some ⟨b, 0, none⟩), .int .i64 i] w (Ret (.int .i64 (p - 1)) w) := by
  go_enter Tryz.func126, Tryz.ntmps126
  go_wp2
  go_ret
  exact ⟨rfl, rfl⟩
set_option maxHeartbeats 400000 in
theorem place_none (b pb np i : Nat) (w : World) (h0 : w.cell? ⟨b, 3, none⟩ = some (.slice (some ⟨pb, 0, none⟩) np np))
   (hn : i / 64 < np) (hnp : np ≤ 1024) (h1 : w.cell? ⟨pb, i / 64, none⟩ = some (.pointer none)) :
    Calls Tryz.prog 126 #[.pointer (some ⟨b, 0, none⟩), .int .i64 i] w (Ret (.int .i64 (-1)) w) := by
  go_enter Tryz.func126, Tryz.ntmps126
  go_wp2
  go_ret
  exact ⟨rfl, rfl⟩
set_option maxHeartbeats 400000 in
theorem put_some (b pb np q i : Nat) (p : Int) (x : Value) (w : World) (h0 : w.cell? ⟨b, 3, none⟩ = some (.slice (some ⟨pb, 0, none⟩) np np))
   (hn : i / 64 < np) (hnp : np ≤ 1024) (h1 : w.cell? ⟨pb, i / 64, none⟩ = some (.pointer (some ⟨q, 0, none⟩)))
   (h2 : w.cell? ⟨q, i % 64, none⟩ = some x) (h3 : w.frozen? ⟨q, i % 64, none⟩ = false) (hp : -1 ≤ p) (hp2 : p ≤ 65536) :
    Calls Tryz.prog 127 #[.pointer (some ⟨b, 0, none⟩), .int .i64 i, .int .i64 p] w (Ret (.tuple #[]) (w.setCell ⟨q, i % 64, none⟩ (.int .i64 (p + 1)))) := by
  go_enter Tryz.func127, Tryz.ntmps127
  go_wp2
  go_end0
  exact ⟨rfl, rfl⟩
theorem Tryz.zeroBlock : (Tryz.prog.info? 187).bind (·.zero) = some (.agg (List.replicate 64 (.int .i64 0)).toArray) := by kernel_rfl
structure PutNone (b pb i : Nat) (p : Int) (prow : List Value) (w : World) (e : Ending) (w' : World) : Prop where
  val : e = .returned (.tuple #[])
  mod : Mod (fun x => x = pb) w w'
  blk : Blk w' w.heap.size 187 ((List.replicate 64 (.int .i64 0)).set (i % 64) (.int .i64 (p + 1)))
  row : Blk w' pb 185 (prow.set (i / 64) (.pointer (some ⟨w.heap.size, 0, none⟩)))
set_option maxRecDepth 100000 in
set_option maxHeartbeats 400000 in
theorem put_none (b pb np i : Nat) (p : Int) (prow : List Value) (w : World) (h0 : w.cell? ⟨b, 3, none⟩ = some (.slice (some ⟨pb, 0, none⟩) np np)) (hbp : b ≠ pb)
   (hn : i / 64 < np) (hnp : np ≤ 1024) (B0 : Blk w pb 185 prow) (h1 : prow[i / 64]? = some (.pointer none)) (hp : -1 ≤ p) (hp2 : p ≤ 65536) :
    Calls Tryz.prog 127 #[.pointer (some ⟨b, 0, none⟩), .int .i64 i, .int .i64 p] w (PutNone b pb i p prow w) := by
  have c1 := B0.cell h1
  have hb : b < w.heap.size := World.block_lt_of_cell? w _ h0
  have hpb := B0.lt
  have H1 := Lib.hid h1
  have HB := Lib.hid B0
  clear h1 B0
  go_enter Tryz.func127, Tryz.ntmps127
  go_wp2_with (with_reducible refine wpList_allocB _ Tryz.zeroBlock ?_)
  intro w1 B1 hb1
  have g0 : w1.cell? ⟨b, 3, none⟩ = some (.slice (some ⟨pb, 0, none⟩) np np) := (hb1.cell hb).trans h0
  have B2 := HB.out.below hb1 hpb
  have g1 := B2.cell H1.out
  have g2 := B2.free (i / 64)
  have B3 := B2.set (i / 64) (.pointer (some ⟨w.heap.size, 0, none⟩))
  have B4 := B1.other ⟨pb, i / 64, none⟩ (.pointer (some ⟨w.heap.size, 0, none⟩)) (by simp only; omega)
  have g3 : (w1.setCell ⟨pb, i / 64, none⟩ (.pointer (some ⟨w.heap.size, 0, none⟩))).cell? ⟨b, 3, none⟩ = some (.slice (some ⟨pb, 0, none⟩) np np) := by
    rw [World.cell?_setCell_other _ _ _ _ (by simp only [ne_eq, Addr.mk.injEq, and_true]; omega)]; exact g0
  have g4 := B3.cell (i := i / 64) (v := .pointer (some ⟨w.heap.size, 0, none⟩)) (by
    have := (List.getElem?_eq_some_iff.1 H1.out).1
    simp [this])
  have g5 := B4.cell (i := i % 64) (v := .int .i64 0) (by
    show (List.replicate 64 (Value.int .i64 0))[i % 64]? = _
    rw [List.getElem?_replicate, if_pos (by omega)])
  have g6 := B4.free (i % 64)
  have HB3 := Lib.hid B3
  have HB4 := Lib.hid B4
  have HB1 := Lib.hid hb1
  clear B3 B4 B2 B1 hb1 h0 c1
  go_wp2
  go_end0
  refine ⟨rfl, ((Mod.of_below (F := fun x => x = pb) HB1.out).setCell _ (fun _ => rfl) _).setCell _ (fun h => ?_) _, HB4.out.set _ _, HB3.out.other _ _ (by simp only; omega)⟩
  simp only at h
  omega
theorem place_rep (w : World) (g : HG) (hr : HRep w g) (i : Nat) (hi : i < g.slots) (hpl : g.pl i ≤ 65537) :
    Calls Tryz.prog 126 #[.pointer (some ⟨g.b, 0, none⟩), .int .i64 i] w (Ret (.int .i64 ((g.pl i : Int) - 1)) w) := by
  have hs := hr.hs
  have hnp : i / 64 < g.np := by unfold HG.np; omega
  have hnp2 : g.np ≤ 1024 := by unfold HG.np; omega
  have c0 := hr.hb.cell (i := 3) rfl
  have c1 := hr.hp.cell (tbRow_get _ g.tb _ hnp)
  have e : 64 * (i / 64) + i % 64 = i := by omega
  cases hq : g.tb (i / 64) with
  | none =>
    rw [hq] at c1
    have h0 := hr.hn _ hnp hq (i % 64) (by omega)
    rw [e] at h0
    have := place_none g.b g.pb g.np i w c0 hnp hnp2 c1
    rw [h0]
    exact this
  | some q =>
    rw [hq] at c1
    have c2 := (hr.ht _ q hnp hq).cell (plRow_get g.pl (i / 64) (i % 64) (by omega))
    rw [e] at c2
    exact place_some g.b g.pb g.np q i _ w c0 hnp hnp2 c1 c2 (by omega) (by omega)
structure HDoes (v : Value) (g : HG) (w : World) (P : HG → Prop) (e : Ending) (w' : World) : Prop where
  val : e = .returned v
  out : ∃ g', HStep g w g' w' ∧ P g'
theorem put_rep (w : World) (g : HG) (hr : HRep w g) (i : Nat) (hi : i < g.slots) (x : Nat) (hx : x ≤ 65537) (p : Int) (hp : p = (x : Int) - 1) :
    Calls Tryz.prog 127 #[.pointer (some ⟨g.b, 0, none⟩), .int .i64 i, .int .i64 p] w
      (HDoes (.tuple #[]) g w (fun g' => g'.it = g.it ∧ g'.iv = g.iv ∧ g'.pl = upd g.pl i x)) := by
  have hs := hr.hs
  have hnp : i / 64 < g.np := by unfold HG.np; omega
  have hnp2 : g.np ≤ 1024 := by unfold HG.np; omega
  have c0 := hr.hb.cell (i := 3) rfl
  have t1 := tbRow_get _ g.tb _ hnp
  have c1 := hr.hp.cell t1
  have ex : (p + 1) = (x : Int) := by omega
  cases hq : g.tb (i / 64) with
  | none =>
    rw [hq] at t1
    refine (put_none g.b g.pb g.np i p _ w c0 hr.d1 hnp hnp2 hr.hp t1 (by omega) (by omega)).mono ?_
    rintro e w' ⟨rfl, hm, hb, hrow⟩
    rw [ex, ← plRow_zero g.pl (i / 64) (hr.hn _ hnp hq), plRow_set] at hb
    rw [tbRow_set] at hrow
    have hlt := hr.foot_lt
    refine ⟨rfl, { g with tb := fun k => if k = i / 64 then some w.heap.size else g.tb k, pl := upd g.pl i x }, ⟨⟨?_, ?_, hrow, ?_, ?_, hs, hr.d1, hr.d2, hr.d3, ?_, ?_⟩, ?_, rfl, rfl, ?_⟩, rfl, rfl, rfl⟩
    · exact hr.hb.mod hm hr.d1
    · exact owns_same hr.hi fun k hk => hm.block k (hlt k (.inr (.inl hk))) (fun e => hr.d3 (by rw [hk, e]))
    · intro j q hj hjq
      simp only at hjq
      split at hjq
      · rename_i ej
        obtain rfl := Option.some.inj hjq
        subst ej
        exact hb
      · rename_i ej
        show Blk w' q _ (plRow (upd g.pl i x) j)
        rw [plRow_other _ _ _ _ ej]
        exact (hr.ht j q hj hjq).mod hm (hr.d4 j q hj hjq).2.1
    · intro j hj hjq k hk
      simp only at hjq
      split at hjq
      · cases hjq
      · rename_i ej
        show upd g.pl i x _ = 0
        have : 64 * j + k ≠ i := by omega
        simp only [upd, if_neg this]
        exact hr.hn j hj hjq k hk
    · intro j q hj hjq
      simp only at hjq
      split at hjq
      · obtain rfl := Option.some.inj hjq
        refine ⟨?_, ?_, fun h => ?_⟩
        · have := hlt g.b (.inl rfl); show w.heap.size ≠ g.b; omega
        · have := hlt g.pb (.inr (.inr (.inl rfl))); show w.heap.size ≠ g.pb; omega
        · have := hlt _ (.inr (.inl h)); omega
      · exact hr.d4 j q hj hjq
    · intro j j' q hj hj' hjq hjq'
      simp only at hjq hjq'
      split at hjq <;> split at hjq'
      · omega
      · obtain rfl := Option.some.inj hjq
        have := hlt _ (.inr (.inr (.inr ⟨j', hj', hjq'⟩)))
        omega
      · obtain rfl := Option.some.inj hjq'
        have := hlt _ (.inr (.inr (.inr ⟨j, hj, hjq⟩)))
        omega
      · exact hr.d5 j j' q hj hj' hjq hjq'
    · exact hm.mono fun k _ e => .inr (.inr (.inl e))
    · rintro k (h | h | h | ⟨j, hj, h⟩)
      · exact .inl (.inl h)
      · exact .inl (.inr (.inl h))
      · exact .inl (.inr (.inr (.inl h)))
      · simp only at h
        split at h
        · obtain rfl := Option.some.inj h
          exact .inr (Nat.le_refl _)
        · exact .inl (.inr (.inr (.inr ⟨j, hj, h⟩)))
  | some q =>
    rw [hq] at c1
    have hB := hr.ht _ q hnp hq
    have c2 := hB.cell (plRow_get g.pl (i / 64) (i % 64) (by omega))
    refine (put_some g.b g.pb g.np q i p _ w c0 hnp hnp2 c1 c2 (hB.free _) (by omega) (by omega)).mono ?_
    rintro e w' ⟨rfl, rfl⟩
    have hd := hr.d4 _ q hnp hq
    have hB2 := hB.set (i % 64) (.int .i64 (p + 1))
    rw [ex, plRow_set] at hB2
    rw [ex]
    refine ⟨rfl, { g with pl := upd g.pl i x }, ⟨⟨?_, ?_, ?_, ?_, ?_, hs, hr.d1, hr.d2, hr.d3, hr.d4, hr.d5⟩, ?_, rfl, rfl, fun k hk => .inl hk⟩, rfl, rfl, rfl⟩
    · exact hr.hb.other _ _ hd.1.symm
    · exact owns_same hr.hi fun k hk => Below.heap_setCell _ _ _ _ (fun e => hd.2.2 (by rw [hk, e]))
    · exact hr.hp.other _ _ hd.2.1.symm
    · intro j q' hj hjq
      by_cases ej : j = i / 64
      · subst ej
        obtain rfl : q = q' := Option.some.inj (hq.symm.trans hjq)
        exact hB2
      · show Blk _ q' _ (plRow (upd g.pl i x) j)
        rw [plRow_other _ _ _ _ ej]
        exact (hr.ht j q' hj hjq).other _ _ (fun e => ej (hr.d5 j _ q hj hnp (by rw [hjq, e]) hq))
    · intro j hj hjq k hk
      show upd g.pl i x _ = 0
      have : 64 * j + k ≠ i := by
        intro e
        have : j = i / 64 := by omega
        rw [this, hq] at hjq
        cases hjq
      simp only [upd, if_neg this]
      exact hr.hn j hj hjq k hk
    · exact (Mod.refl _ _).setCell _ (fun _ => .inr (.inr (.inr ⟨_, hnp, hq⟩))) _
theorem Tryz.infoPB : (Tryz.prog.info? 185).map (fun i => (i.zero, i.size, i.bytes)) = some (some (.pointer none), 1, 8) := by kernel_rfl
structure NewPost (n : Nat) (w : World) (e : Ending) (w' : World) : Prop where
  bel : Below w.heap.size w w'
  out : ∃ g, HRep w' g ∧ g.slots = n ∧ g.it = [] ∧ g.pl = (fun _ => 0) ∧ (∀ k, g.foot k → w.heap.size ≤ k) ∧ e = .returned (.tuple #[.pointer (some ⟨g.b, 0, none⟩), .int .i64 0])
set_option maxHeartbeats 400000 in
theorem new_ok (n : Nat) (w : World) (h : n ≤ 65536) :
    Calls Tryz.prog 81 #[.int .i64 n] w (NewPost n w) := by
  go_enter Tryz.func81, Tryz.ntmps81
  go_wp2_with (at_make; refine wpList_makeB 185 (.pointer none) 8 Tryz.underlying181 Tryz.infoPB rfl _ _ _ _ ((n + 63) / 64) rfl rfl (by omega) (by omega) (by omega) (by unfold maxLen; omega) ?_; intro w1 B1 hb1)
  go_ret2
  have hlt := B1.lt
  have hsz := hb1.size
  refine ⟨hb1.alloc hsz _, ⟨w1.heap.size, n, .slice none 0 0, [], w.heap.size, fun _ => none, fun _ => 0⟩, ⟨?_, ?_, ?_, ?_, ?_, h, ?_, ?_, ?_, ?_, ?_⟩, rfl, rfl, rfl, ?_, rfl⟩
  · exact Blk.new _ _ _
  · exact ⟨rfl, .inl ⟨rfl, rfl⟩⟩
  · have : tbRow ((n + 63) / 64) (fun _ => none) = List.replicate ((n + 63) / 64) (.pointer none) := by
      simp [tbRow, List.map_const']
    show Blk _ _ _ (tbRow ((n + 63) / 64) (fun _ => none))
    rw [this]
    exact B1.alloc _
  · intro j q _ hq; cases hq
  · intro j _ _ k _; rfl
  · show w1.heap.size ≠ w.heap.size; omega
  · exact fun hh => by cases hh
  · exact fun hh => by cases hh
  · intro j q _ hq; cases hq
  · intro j j' q _ _ hq; cases hq
  · rintro k (hk | hk | hk | ⟨j, hj, hk⟩)
    · show w.heap.size ≤ k; rw [show k = w1.heap.size from hk]; exact hsz
    · cases hk
    · exact Nat.le_of_eq hk.symm
    · cases hk
end Go.Proofs.YtlooaipipmiijaaGreat

namespace Go.Proofs.YtlooaipipmiijaaGreat
set_option linter.unusedVariables false
set_option linter.unusedSimpArgs false
open Go.RowKit
theorem swap_world {w : World} {g : HG} {ib cap p q : Nat} (hr : HRep w g) (hv : g.iv = .slice (some ⟨ib, 0, none⟩) g.it.length cap) (hp : p < g.it.length) (hq : q < g.it.length) :
    HRep ((((w.setCell ⟨ib, p * 2, none⟩ (.int .i64 (ent g.it q).1)).setCell ⟨ib, p * 2 + 1, none⟩ (.int .i64 (ent g.it q).2)).setCell ⟨ib, q * 2, none⟩ (.int .i64 (ent g.it p).1)).setCell ⟨ib, q * 2 + 1, none⟩ (.int .i64 (ent g.it p).2)).drew { g with it := swapL g.it p q } ∧
    Mod g.foot w ((((w.setCell ⟨ib, p * 2, none⟩ (.int .i64 (ent g.it q).1)).setCell ⟨ib, p * 2 + 1, none⟩ (.int .i64 (ent g.it q).2)).setCell ⟨ib, q * 2, none⟩ (.int .i64 (ent g.it p).1)).setCell ⟨ib, q * 2 + 1, none⟩ (.int .i64 (ent g.it p).2)).drew := by
  have hf : g.foot ib := .inr (.inl (by rw [hv]; rfl))
  have ho := hr.hi
  rw [hv] at ho
  have h4 := owns_set (owns_set (owns_set (owns_set ho (p * 2) (by omega) (.int .i64 (ent g.it q).1)) (p * 2 + 1) (by omega) (.int .i64 (ent g.it q).2)) (q * 2) (by omega) (.int .i64 (ent g.it p).1)) (q * 2 + 1) (by omega) (.int .i64 (ent g.it p).2)
  rw [ents_set, ents_set] at h4
  refine ⟨hr.items ?_ ?_, ((((Mod.refl _ _).setCell _ (fun _ => hf) _).setCell _ (fun _ => hf) _).setCell _ (fun _ => hf) _).setCell _ (fun _ => hf) _ |>.drew⟩
  · rw [swapL_length, hv]; exact h4
  · intro k _ hne
    have hk : k ≠ ib := fun e => hne (by rw [hv, e]; rfl)
    show (World.setCell _ _ _).heap[k]? = _
    rw [Below.heap_setCell _ _ _ _ hk, Below.heap_setCell _ _ _ _ hk, Below.heap_setCell _ _ _ _ hk, Below.heap_setCell _ _ _ _ hk]
def InRange (g : HG) : Prop := ∀ p, p < g.it.length → ∃ i : Nat, (ent g.it p).1 = (i : Int) ∧ i < g.slots
set_option maxRecDepth 100000 in
set_option maxHeartbeats 2000000 in
theorem swap_rep (w : World) (g : HG) (hr : HRep w g) (hin : InRange g) (hlen : g.it.length ≤ 65536) (p q : Nat) (hp : p < g.it.length) (hq : q < g.it.length) :
    Calls Tryz.prog 129 #[.pointer (some ⟨g.b, 0, none⟩), .int .i64 p, .int .i64 q] w
      (HDoes (.tuple #[]) g w (fun g' => g'.it = swapL g.it p q ∧ g'.pl = upd (upd g.pl (ent g.it q).1.toNat (p + 1)) (ent g.it p).1.toNat (q + 1))) := by
  obtain ⟨ib, cap, hv, hc1, hc2, hlt, hcell, hfree⟩ := owns_form hr.hi (by omega)
  obtain ⟨i, hi, hil⟩ := hin p hp
  obtain ⟨j, hj, hjl⟩ := hin q hq
  have h0 := hr.hb.cell (i := 2) rfl
  rw [hv] at h0
  have p0 := (hcell (p * 2) (by omega)).trans (ents_get0 _ _ hp)
  have p1 := (hcell (p * 2 + 1) (by omega)).trans (ents_get1 _ _ hp)
  have q0 := (hcell (q * 2) (by omega)).trans (ents_get0 _ _ hq)
  have q1 := (hcell (q * 2 + 1) (by omega)).trans (ents_get1 _ _ hq)
  have f1 := hfree (p * 2)
  have f2 := hfree (p * 2 + 1)
  have f3 := hfree (q * 2)
  have f4 := hfree (q * 2 + 1)
  obtain ⟨hrep, hmod⟩ := swap_world hr hv hp hq
  have HR := Lib.hid hrep
  have HM := Lib.hid hmod
  have HV := Lib.hid hv
  have HI := Lib.hid hi
  have HJ := Lib.hid hj
  have HRR := Lib.hid hr
  have hbi : g.b ≠ ib := fun e => hr.d2 (by rw [hv, e]; rfl)
  obtain ⟨v1, s1⟩ := cell?_setCell_some (w := w) (p := ⟨ib, p * 2, none⟩) (x := .int .i64 (ent g.it q).1) (q := ⟨ib, q * 2, none⟩) q0
  obtain ⟨v2, s2⟩ := cell?_setCell_some (w := w) (p := ⟨ib, p * 2, none⟩) (x := .int .i64 (ent g.it q).1) (q := ⟨ib, q * 2 + 1, none⟩) q1
  obtain ⟨v3, s3⟩ := cell?_setCell_some (p := ⟨ib, p * 2 + 1, none⟩) (x := .int .i64 (ent g.it q).2) s2
  clear s2
  have ep : (ent (swapL g.it p q) p).1 = (j : Int) := by
    rw [ent_swapL hp hq]
    by_cases e : p = q
    · subst e; rw [if_pos rfl]; exact hj
    · rw [if_neg e, if_pos rfl]; exact hj
  have eq : (ent (swapL g.it p q) q).1 = (i : Int) := by
    rw [ent_swapL hp hq, if_pos rfl]; exact hi
  have Ep := Lib.hid ep
  have Eq := Lib.hid eq
  have Ex : Hid ((ent g.it p).1.toNat = i) := by show _ = _; omega
  have Ey : Hid ((ent g.it q).1.toNat = j) := by show _ = _; omega
  clear hrep hmod hv hcell hfree hr hi hj ep eq
  generalize ent g.it p = x at *
  generalize ent g.it q = y at *
  go_enter Tryz.func129, Tryz.ntmps129
  go_wp2_with fail
  go_region
  generalize hW : World.drew _ = W at HR HM ⊢
  clear hW p0 p1 q0 q1 s1 s3 f1 f2 f3 f4 h0
  have hr1 := HR.out
  have hl1 : (swapL g.it p q).length = g.it.length := swapL_length _ _ _
  have h0 := hr1.hb.cell (i := 2) (v := .slice (some ⟨ib, 0, none⟩) g.it.length cap) (congrArg some HV.out)
  have c1 : W.cell? ⟨ib, p * 2, none⟩ = some (.int .i64 (j : Nat)) := by
    have ho := hr1.hi
    simp only [HV.out, hl1] at ho
    rw [ho.cellAt _ (by omega), ents_get0 _ _ (by omega), Ep.out]
  clear hl1 hr1
  go_wp2_with fail
  refine (put_rep W _ HR.out j hjl (p + 1) (by omega) p (by omega)).mono ?_
  rintro e w2 ⟨rfl, g2, st2, e2, e2v, e2'⟩
  have h2 := st2.rep.hb.cell (i := 2) (v := .slice (some ⟨ib, 0, none⟩) g.it.length cap) (congrArg some (e2v.trans HV.out))
  have c2 : w2.cell? ⟨ib, q * 2, none⟩ = some (.int .i64 (i : Nat)) := by
    have ho := st2.rep.hi
    rw [e2, e2v] at ho
    simp only [HV.out, swapL_length] at ho
    rw [ho.cellAt _ (by omega), ents_get0 _ _ (by rw [swapL_length]; omega), Eq.out]
  have hb2 : g2.b = g.b := st2.b
  rw [hb2] at h2
  have ST2 := Lib.hid st2
  have E2 := Lib.hid e2
  have E2' := Lib.hid e2'
  have HB2 := Lib.hid hb2
  have hs2 : i < g2.slots := by rw [st2.slots]; exact hil
  clear st2 e2 e2v e2' hb2 h0 c1
  go_wp2_with fail
  rw [← HB2.out]
  refine (put_rep w2 g2 ST2.out.rep i hs2 (q + 1) (by omega) q (by omega)).mono ?_
  rintro e w3 ⟨rfl, g3, st3, e3, e3v, e3'⟩
  have FIN : Hid (HDoes (.tuple #[]) g w (fun g' => g'.it = swapL g.it p q ∧ g'.pl = upd (upd g.pl y.1.toNat (p + 1)) x.1.toNat (q + 1)) (.returned (.tuple #[])) w3) := by
    refine ⟨rfl, g3, HStep.trans (g1 := { g with it := swapL g.it p q }) ⟨HR.out, HM.out, rfl, rfl, fun k hk => .inl hk⟩ (ST2.out.trans st3), e3.trans E2.out, ?_⟩
    rw [e3', E2'.out, Ex.out, Ey.out]
  clear st3 e3 e3v e3' h2 c2
  go_wp2_with fail
  go_end0
  exact FIN.out
end Go.Proofs.YtlooaipipmiijaaGreat

namespace Go.Proofs.YtlooaipipmiijaaGreat
set_option linter.unusedVariables false
set_option linter.unusedSimpArgs false
open Go.RowKit
def aboveV (it : List Ent) (p : Nat) : Int := if 0 < p ∧ elt (ent it p) (ent it (par p)) then (par p : Int) else -1
theorem RetB.of_eq {v v' : Value} {w w' : World} (h : v = v') (hb : Below w.heap.size w w') : RetB v' w (.returned v) w' := ⟨by rw [h], hb⟩
theorem HRep.at {w : World} {g : HG} (hr : HRep w g) {p : Nat} (hp : p < g.it.length) : ∃ ib cap, g.iv = .slice (some ⟨ib, 0, none⟩) g.it.length cap ∧ g.it.length ≤ cap ∧ cap ≤ maxLen ∧ ib < w.heap.size ∧
    w.cell? ⟨g.b, 2, none⟩ = some (.slice (some ⟨ib, 0, none⟩) g.it.length cap) ∧
    ∀ q, q < g.it.length → w.cell? ⟨ib, q * 2, none⟩ = some (.int .i64 (ent g.it q).1) ∧ w.cell? ⟨ib, q * 2 + 1, none⟩ = some (.int .i64 (ent g.it q).2) := by
  obtain ⟨ib, cap, hv, hc1, hc2, hlt, hcell, hfree⟩ := owns_form hr.hi (by omega)
  have h0 := hr.hb.cell (i := 2) rfl
  rw [hv] at h0
  exact ⟨ib, cap, hv, hc1, hc2, hlt, h0, fun q hq => ⟨(hcell (q * 2) (by omega)).trans (ents_get0 _ _ hq), (hcell (q * 2 + 1) (by omega)).trans (ents_get1 _ _ hq)⟩⟩
set_option maxRecDepth 100000 in
set_option maxHeartbeats 1000000 in
theorem above_zero (w : World) (g : HG) :
    Calls Tryz.prog 140 #[.pointer (some ⟨g.b, 0, none⟩), .int .i64 0] w (RetB (.int .i64 (-1)) w) := by
  go_enter Tryz.func140, Tryz.ntmps140
  go_wp2_with fail
  go_quiet (fail)
  go_wp2_with fail
  go_ret
  exact ⟨rfl, bel_drewN (Below.refl _ _) _⟩
set_option maxRecDepth 100000 in
set_option maxHeartbeats 1000000 in
theorem above_pos (w : World) (g : HG) (hr : HRep w g) (hlen : g.it.length ≤ 65536) (p : Nat) (hp : p < g.it.length) (h0 : 0 < p) :
    Calls Tryz.prog 140 #[.pointer (some ⟨g.b, 0, none⟩), .int .i64 p] w (RetB (.int .i64 (aboveV g.it p)) w) := by
  obtain ⟨ib, cap, hv, hc1, hc2, hlt, hs, hcell⟩ := hr.at hp
  have hpar : par p < g.it.length := by unfold par; omega
  obtain ⟨p0, p1⟩ := hcell p hp
  obtain ⟨q0, q1⟩ := hcell _ hpar
  have e1 : ((p : Int) - 1) / 2 = (par p : Nat) := by unfold par; omega
  have HA : Hid (aboveV g.it p = if ordI (ent g.it p) (ent g.it (par p)) < 0 then (par p : Int) else -1) := by
    show _ = _
    unfold aboveV
    simp only [ordI_neg, h0, true_and]
  generalize aboveV g.it p = r at *
  generalize ent g.it p = x at *
  generalize ent g.it (par p) = y at *
  generalize par p = q at *
  generalize g.it.length = n at *
  clear hcell hv hr
  go_enter Tryz.func140, Tryz.ntmps140
  go_wp2_with fail
  refine region_tail 17 (by kernel_rfl) (by kernel_rfl) ?_
  intro w2 hw2
  have HB : Hid (Below w.heap.size w w2) := by rw [hw2]; exact (Below.refl _ _).drew
  have hs' : w2.cell? ⟨g.b, 2, none⟩ = some (.slice (some ⟨ib, 0, none⟩) n cap) := by rw [hw2]; exact hs
  have p0' : w2.cell? ⟨ib, p * 2, none⟩ = some (.int .i64 x.1) := by rw [hw2]; exact p0
  have p1' : w2.cell? ⟨ib, p * 2 + 1, none⟩ = some (.int .i64 x.2) := by rw [hw2]; exact p1
  have q0' : w2.cell? ⟨ib, q * 2, none⟩ = some (.int .i64 y.1) := by rw [hw2]; exact q0
  have q1' : w2.cell? ⟨ib, q * 2 + 1, none⟩ = some (.int .i64 y.2) := by rw [hw2]; exact q1
  clear hw2 hs p0 p1 q0 q1
  simp only [List.take_succ_cons, List.take_zero, List.drop_succ_cons, List.drop_zero]
  repeat still_step
  refine wpStill_nil ?_
  clear hs' p0' p1' q0' q1'
  by_cases hl : ordI x y < 0
  · have HL := Lib.hid hl
    have hd : decide (ordI x y < 0) = true := by simp [hl]
    clear hl
    go_wp2_with (go_at_call 157; refine (order_any x.1 y.1 x.2 y.2 _).mono ?_; rintro e w' ⟨rfl, hb⟩; have HBB := Lib.hid hb; clear hb; change decide (ordI (x.1, x.2) (y.1, y.2) < 0) = true at hd)
    go_ret
    exact RetB.of_eq (by rw [HA.out, if_pos HL.out]; rfl) (HB.out.trans (HBB.out.mono HB.out.size))
  · have HL := Lib.hid hl
    have hd : decide (ordI x y < 0) = false := by simp [hl]
    clear hl
    go_wp2_with (go_at_call 157; refine (order_any x.1 y.1 x.2 y.2 _).mono ?_; rintro e w' ⟨rfl, hb⟩; have HBB := Lib.hid hb; clear hb; change decide (ordI (x.1, x.2) (y.1, y.2) < 0) = false at hd)
    go_ret
    exact RetB.of_eq (by rw [HA.out, if_neg (by have := HL.out; omega)]; rfl) (HB.out.trans (HBB.out.mono HB.out.size))
theorem above_rep (w : World) (g : HG) (hr : HRep w g) (hlen : g.it.length ≤ 65536) (p : Nat) (hp : p < g.it.length) :
    Calls Tryz.prog 140 #[.pointer (some ⟨g.b, 0, none⟩), .int .i64 p] w (RetB (.int .i64 (aboveV g.it p)) w) := by
  by_cases h0 : 0 < p
  · exact above_pos w g hr hlen p hp h0
  · obtain rfl : p = 0 := by omega
    have : aboveV g.it 0 = -1 := by simp [aboveV]
    rw [this]
    exact above_zero w g
def fk (it : List Ent) (p : Nat) : Nat → Nat
  | 0 => p
  | 1 => bel1 it p
  | _ => bel2 it p
theorem fk_step (it : List Ent) (p k : Nat) (hk : k < 2) : fk it p (k + 1) = if 2 * p + 1 + k < it.length ∧ elt (ent it (2 * p + 1 + k)) (ent it (fk it p k)) then 2 * p + 1 + k else fk it p k := by
  obtain rfl | rfl : k = 0 ∨ k = 1 := by omega
  · rfl
  · rfl
theorem fk_lt {it : List Ent} {p : Nat} (hp : p < it.length) (k : Nat) : fk it p k < it.length := by
  have h1 : bel1 it p < it.length := by unfold bel1; split <;> omega
  match k with
  | 0 => exact hp
  | 1 => exact h1
  | k + 2 => show bel2 it p < _; unfold bel2; split <;> omega
def belowV (it : List Ent) (p : Nat) : Int := if bel2 it p = p then -1 else (bel2 it p : Int)
set_option maxRecDepth 100000 in
set_option maxHeartbeats 2000000 in
theorem below_rep (w : World) (g : HG) (hr : HRep w g) (hlen : g.it.length ≤ 65536) (p : Nat) (hp : p < g.it.length) :
    Calls Tryz.prog 141 #[.pointer (some ⟨g.b, 0, none⟩), .int .i64 p] w (RetB (.int .i64 (belowV g.it p)) w) := by
  have HR := Lib.hid hr
  clear hr
  go_enter Tryz.func141, Tryz.ntmps141
  go_wp2_with fail
  go_loopw [5, 9] (fun f i wr => ∃ k : Nat, k ≤ 2 ∧ i = .int .i64 k ∧ f = .int .i64 (fk g.it p k : Nat) ∧ Below w.heap.size w wr) (fun _ i _ => 2 - (intOf i).toNat)
  case atStart => exact ⟨0, by omega, rfl, rfl, Below.refl _ _⟩
  case round =>
    obtain ⟨k, hk, rfl, rfl, hb⟩ := hrel
    have hr := HR.out.below hb
    obtain ⟨ib, cap, hv, hc1, hc2, hlt, hs, hcell⟩ := hr.at hp
    have hfl := fk_lt hp k
    have HB := Lib.hid hb
    by_cases hk2 : k < 2
    · have hstep := fk_step g.it p k hk2
      have HS := Lib.hid hstep
      obtain ⟨f0, f1⟩ := hcell _ hfl
      by_cases hq : 2 * p + 1 + k < g.it.length
      · obtain ⟨q0, q1⟩ := hcell _ hq
        have HS2 : Hid (fk g.it p (k + 1) = if ordI (ent g.it (2 * p + 1 + k)) (ent g.it (fk g.it p k)) < 0 then 2 * p + 1 + k else fk g.it p k) := by
          show _ = _
          rw [hstep]
          simp only [ordI_neg, hq, true_and]
        clear hstep HS hcell hr hb hv
        generalize fk g.it p k = f at *
        generalize ent g.it (2 * p + 1 + k) = x at *
        generalize ent g.it f = y at *
        go_wp2_with fail
        refine region_tail 22 (by kernel_rfl) (by kernel_rfl) ?_
        intro w2 hw2
        have HB2 : Hid (Below w.heap.size w w2) := by rw [hw2]; exact HB.out.drew
        have hs' : w2.cell? ⟨g.b, 2, none⟩ = some (.slice (some ⟨ib, 0, none⟩) g.it.length cap) := by rw [hw2]; exact hs
        have p0' : w2.cell? ⟨ib, (2 * p + 1 + k) * 2, none⟩ = some (.int .i64 x.1) := by rw [hw2]; exact q0
        have p1' : w2.cell? ⟨ib, (2 * p + 1 + k) * 2 + 1, none⟩ = some (.int .i64 x.2) := by rw [hw2]; exact q1
        have q0' : w2.cell? ⟨ib, f * 2, none⟩ = some (.int .i64 y.1) := by rw [hw2]; exact f0
        have q1' : w2.cell? ⟨ib, f * 2 + 1, none⟩ = some (.int .i64 y.2) := by rw [hw2]; exact f1
        clear hw2 hs f0 f1 q0 q1 HB
        simp only [List.take_succ_cons, List.take_zero, List.drop_succ_cons, List.drop_zero]
        have qi : 2 * (p : Int) + 1 + (k : Int) < (g.it.length : Int) := by omega
        have q0 : (0 : Int) ≤ 2 * (p : Int) + 1 + (k : Int) := by omega
        have qn : (2 * (p : Int) + 1 + (k : Int)).toNat = 2 * p + 1 + k := by omega
        have fi : (f : Int) < (g.it.length : Int) := by omega
        repeat still_step
        refine wpStill_nil ?_
        clear hs' p0' p1' q0' q1' qi q0 qn fi
        by_cases hl : ordI x y < 0
        · have HL := Lib.hid hl
          have hd : decide (ordI x y < 0) = true := by simp [hl]
          clear hl
          go_wp2_with (go_at_call 157; refine (order_any x.1 y.1 x.2 y.2 _).mono ?_; rintro e w' ⟨rfl, hb⟩; have HBB := Lib.hid hb; clear hb; change decide (ordI (x.1, x.2) (y.1, y.2) < 0) = true at hd)
          go_roundw
          case rel => exact ⟨k + 1, by omega, by go_num, by rw [HS2.out, if_pos HL.out]; go_num, HB2.out.trans (HBB.out.mono HB2.out.size)⟩
          case measure => simp [intOf]; omega
        · have HL := Lib.hid hl
          have hd : decide (ordI x y < 0) = false := by simp [hl]
          clear hl
          go_wp2_with (go_at_call 157; refine (order_any x.1 y.1 x.2 y.2 _).mono ?_; rintro e w' ⟨rfl, hb⟩; have HBB := Lib.hid hb; clear hb; change decide (ordI (x.1, x.2) (y.1, y.2) < 0) = false at hd)
          go_roundw
          case rel => exact ⟨k + 1, by omega, by go_num, by rw [HS2.out, if_neg (by have := HL.out; omega)], HB2.out.trans (HBB.out.mono HB2.out.size)⟩
          case measure => simp [intOf]; omega
      · have HS2 : Hid (fk g.it p (k + 1) = fk g.it p k) := by
          show _ = _
          rw [hstep, if_neg (fun h => hq h.1)]
        clear hstep HS hcell hr hb hv f0 f1
        generalize fk g.it p k = f at *
        have qi : decide (2 * (p : Int) + 1 + (k : Int) < (g.it.length : Int)) = false := by simp; omega
        go_wp2_with fail
        go_quiet (fail)
        go_wp2_with fail
        go_roundw
        case rel => exact ⟨k + 1, by omega, by go_num, by rw [HS2.out], bel_drewN HB.out _⟩
        case measure => simp [intOf]; omega
    · obtain rfl : k = 2 := by omega
      clear hcell hr hb hv hs
      have HV : Hid (belowV g.it p = if fk g.it p 2 = p then -1 else (fk g.it p 2 : Int)) := rfl
      generalize belowV g.it p = r at *
      generalize fk g.it p 2 = f at *
      by_cases hf : f = p
      · have hd : ((f : Int) == (p : Int)) = true := by simp [hf]
        have HF := Lib.hid hf
        clear hf
        go_wp2_with fail
        go_ret
        exact RetB.of_eq (by rw [HV.out, if_pos HF.out]; rfl) HB.out
      · have hd : ((f : Int) == (p : Int)) = false := by simp; omega
        have HF := Lib.hid hf
        clear hf
        go_wp2_with fail
        go_ret
        exact RetB.of_eq (by rw [HV.out, if_neg HF.out]; rfl) HB.out
end Go.Proofs.YtlooaipipmiijaaGreat
