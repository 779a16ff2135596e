/- The heap's small functions: valid, has, place, put, New: what each does to cells. -/
import Derived.Test.YtebclbpibafkdaaCmp
import Derived.Test.YtebclbpibafkdaaHeapR
namespace Go.Proofs.Ytebclbpibafkdaa
set_option linter.unusedVariables false
set_option linter.unusedSimpArgs false
open Go.RowKit

theorem Try.eqlHeap (a : Addr) (w : World) : (binOp .eql 24 (.pointer (some a)) (.pointer (some a))).run Try.prog w = .ok (.bool true) w := by
  have hj : ∃ j, Try.prog.info? 90 = some j := Option.isSome_iff_exists.1 (by kernel_rfl)
  obtain ⟨j, hj⟩ := hj
  exact run_eql_ptr_same w a Try.underlying24 hj

set_option maxHeartbeats 400000 in
theorem valid_ok (b : Nat) (w : World) (h0 : w.cell? ⟨b, 0, none⟩ = some (.pointer (some ⟨b, 0, none⟩))) :
    Calls Try.prog 59 #[.pointer (some ⟨b, 0, none⟩)] w (Ret (.bool true) w) := by
  have he := Try.eqlHeap ⟨b, 0, none⟩ w
  go_enter Try.func59, Try.ntmps59
  go_wp2
  go_ret
  exact ⟨rfl, rfl⟩

def hasB (i n : Int) : Bool := decide (0 ≤ i ∧ i < n)

set_option maxHeartbeats 400000 in
theorem has_any (b : Nat) (i n : Int) (w : World) (h0 : w.cell? ⟨b, 1, none⟩ = some (.int .i64 n)) :
    Calls Try.prog 83 #[.pointer (some ⟨b, 0, none⟩), .int .i64 i] w (Ret (.bool (hasB i n)) w) := by
  go_enter Try.func83, Try.ntmps83
  go_wp2
  all_goals
    go_ret
    exact ⟨ret_bool (by unfold hasB; simp; omega), rfl⟩

set_option maxHeartbeats 400000 in
theorem place_some (b pb np q i : Nat) (p : Int) (w : World) (h0 : w.cell? ⟨b, 3, none⟩ = some (.slice (some ⟨pb, 0, none⟩) np np))
   (hn : i / 64 < np) (hnp : np ≤ 1024) (h1 : w.cell? ⟨pb, i / 64, none⟩ = some (.pointer (some ⟨q, 0, none⟩)))
   (h2 : w.cell? ⟨q, i % 64, none⟩ = some (.int .i64 p)) (hp : 0 ≤ p) (hp2 : p ≤ 65537) :
    Calls Try.prog 84 #[.pointer (some ⟨b, 0, none⟩), .int .i64 i] w (Ret (.int .i64 (p - 1)) w) := by
  go_enter Try.func84, Try.ntmps84
  go_wp2
  go_ret
  exact ⟨rfl, rfl⟩

set_option maxHeartbeats 400000 in
theorem place_none (b pb np i : Nat) (w : World) (h0 : w.cell? ⟨b, 3, none⟩ = some (.slice (some ⟨pb, 0, none⟩) np np))
   (hn : i / 64 < np) (hnp : np ≤ 1024) (h1 : w.cell? ⟨pb, i / 64, none⟩ = some (.pointer none)) :
    Calls Try.prog 84 #[.pointer (some ⟨b, 0, none⟩), .int .i64 i] w (Ret (.int .i64 (-1)) w) := by
  go_enter Try.func84, Try.ntmps84
  go_wp2
  go_ret
  exact ⟨rfl, rfl⟩

set_option maxHeartbeats 400000 in
theorem put_some (b pb np q i : Nat) (p : Int) (x : Value) (w : World) (h0 : w.cell? ⟨b, 3, none⟩ = some (.slice (some ⟨pb, 0, none⟩) np np))
   (hn : i / 64 < np) (hnp : np ≤ 1024) (h1 : w.cell? ⟨pb, i / 64, none⟩ = some (.pointer (some ⟨q, 0, none⟩)))
   (h2 : w.cell? ⟨q, i % 64, none⟩ = some x) (h3 : w.frozen? ⟨q, i % 64, none⟩ = false) (hp : -1 ≤ p) (hp2 : p ≤ 65536) :
    Calls Try.prog 85 #[.pointer (some ⟨b, 0, none⟩), .int .i64 i, .int .i64 p] w (Ret (.tuple #[]) (w.setCell ⟨q, i % 64, none⟩ (.int .i64 (p + 1)))) := by
  go_enter Try.func85, Try.ntmps85
  go_wp2
  go_end0
  exact ⟨rfl, rfl⟩

theorem Try.zeroBlock : (Try.prog.info? 113).bind (·.zero) = some (.agg (List.replicate 64 (.int .i64 0)).toArray) := by kernel_rfl

structure PutNone (b pb i : Nat) (p : Int) (prow : List Value) (w : World) (e : Ending) (w' : World) : Prop where
  val : e = .returned (.tuple #[])
  mod : Mod (fun x => x = pb) w w'
  blk : Blk w' w.heap.size 113 ((List.replicate 64 (.int .i64 0)).set (i % 64) (.int .i64 (p + 1)))
  row : Blk w' pb 111 (prow.set (i / 64) (.pointer (some ⟨w.heap.size, 0, none⟩)))

set_option maxRecDepth 100000 in
set_option maxHeartbeats 400000 in
theorem put_none (b pb np i : Nat) (p : Int) (prow : List Value) (w : World) (h0 : w.cell? ⟨b, 3, none⟩ = some (.slice (some ⟨pb, 0, none⟩) np np)) (hbp : b ≠ pb)
   (hn : i / 64 < np) (hnp : np ≤ 1024) (B0 : Blk w pb 111 prow) (h1 : prow[i / 64]? = some (.pointer none)) (hp : -1 ≤ p) (hp2 : p ≤ 65536) :
    Calls Try.prog 85 #[.pointer (some ⟨b, 0, none⟩), .int .i64 i, .int .i64 p] w (PutNone b pb i p prow w) := by
  have c1 := B0.cell h1
  have hb : b < w.heap.size := World.block_lt_of_cell? w _ h0
  have hpb := B0.lt
  have H1 := Lib.hid h1
  have HB := Lib.hid B0
  clear h1 B0
  go_enter Try.func85, Try.ntmps85
  go_wp2_with (with_reducible refine wpList_allocB _ Try.zeroBlock ?_)
  intro w1 B1 hb1
  have g0 : w1.cell? ⟨b, 3, none⟩ = some (.slice (some ⟨pb, 0, none⟩) np np) := (hb1.cell hb).trans h0
  have B2 := HB.out.below hb1 hpb
  have g1 := B2.cell H1.out
  have g2 := B2.free (i / 64)
  have B3 := B2.set (i / 64) (.pointer (some ⟨w.heap.size, 0, none⟩))
  have B4 := B1.other ⟨pb, i / 64, none⟩ (.pointer (some ⟨w.heap.size, 0, none⟩)) (by simp only; omega)
  have g3 : (w1.setCell ⟨pb, i / 64, none⟩ (.pointer (some ⟨w.heap.size, 0, none⟩))).cell? ⟨b, 3, none⟩ = some (.slice (some ⟨pb, 0, none⟩) np np) := by
    rw [World.cell?_setCell_other _ _ _ _ (by simp only [ne_eq, Addr.mk.injEq, and_true]; omega)]; exact g0
  have g4 := B3.cell (i := i / 64) (v := .pointer (some ⟨w.heap.size, 0, none⟩)) (by
    have := (List.getElem?_eq_some_iff.1 H1.out).1
    simp [this])
  have g5 := B4.cell (i := i % 64) (v := .int .i64 0) (by
    show (List.replicate 64 (Value.int .i64 0))[i % 64]? = _
    rw [List.getElem?_replicate, if_pos (by omega)])
  have g6 := B4.free (i % 64)
  have HB3 := Lib.hid B3
  have HB4 := Lib.hid B4
  have HB1 := Lib.hid hb1
  clear B3 B4 B2 B1 hb1 h0 c1
  go_wp2
  go_end0
  refine ⟨rfl, ((Mod.of_below (F := fun x => x = pb) HB1.out).setCell _ (fun _ => rfl) _).setCell _ (fun h => ?_) _, HB4.out.set _ _, HB3.out.other _ _ (by simp only; omega)⟩
  simp only at h
  omega

/-- The place of an index, from 0 on; -1 where there is none. -/
theorem place_rep (w : World) (g : HG) (hr : HRep w g) (i : Nat) (hi : i < g.slots) (hpl : g.pl i ≤ 65537) :
    Calls Try.prog 84 #[.pointer (some ⟨g.b, 0, none⟩), .int .i64 i] w (Ret (.int .i64 ((g.pl i : Int) - 1)) w) := by
  have hs := hr.hs
  have hnp : i / 64 < g.np := by unfold HG.np; omega
  have hnp2 : g.np ≤ 1024 := by unfold HG.np; omega
  have c0 := hr.hb.cell (i := 3) rfl
  have c1 := hr.hp.cell (tbRow_get _ g.tb _ hnp)
  have e : 64 * (i / 64) + i % 64 = i := by omega
  cases hq : g.tb (i / 64) with
  | none =>
    rw [hq] at c1
    have h0 := hr.hn _ hnp hq (i % 64) (by omega)
    rw [e] at h0
    have := place_none g.b g.pb g.np i w c0 hnp hnp2 c1
    rw [h0]
    exact this
  | some q =>
    rw [hq] at c1
    have c2 := (hr.ht _ q hnp hq).cell (plRow_get g.pl (i / 64) (i % 64) (by omega))
    rw [e] at c2
    exact place_some g.b g.pb g.np q i _ w c0 hnp hnp2 c1 c2 (by omega) (by omega)

structure HDoes (v : Value) (g : HG) (w : World) (P : HG → Prop) (e : Ending) (w' : World) : Prop where
  val : e = .returned v
  out : ∃ g', HStep g w g' w' ∧ P g'

theorem put_rep (w : World) (g : HG) (hr : HRep w g) (i : Nat) (hi : i < g.slots) (x : Nat) (hx : x ≤ 65537) (p : Int) (hp : p = (x : Int) - 1) :
    Calls Try.prog 85 #[.pointer (some ⟨g.b, 0, none⟩), .int .i64 i, .int .i64 p] w
      (HDoes (.tuple #[]) g w (fun g' => g'.it = g.it ∧ g'.iv = g.iv ∧ g'.pl = upd g.pl i x)) := by
  have hs := hr.hs
  have hnp : i / 64 < g.np := by unfold HG.np; omega
  have hnp2 : g.np ≤ 1024 := by unfold HG.np; omega
  have c0 := hr.hb.cell (i := 3) rfl
  have t1 := tbRow_get _ g.tb _ hnp
  have c1 := hr.hp.cell t1
  have ex : (p + 1) = (x : Int) := by omega
  cases hq : g.tb (i / 64) with
  | none =>
    rw [hq] at t1
    refine (put_none g.b g.pb g.np i p _ w c0 hr.d1 hnp hnp2 hr.hp t1 (by omega) (by omega)).mono ?_
    rintro e w' ⟨rfl, hm, hb, hrow⟩
    rw [ex, ← plRow_zero g.pl (i / 64) (hr.hn _ hnp hq), plRow_set] at hb
    rw [tbRow_set] at hrow
    have hlt := hr.foot_lt
    refine ⟨rfl, { g with tb := fun k => if k = i / 64 then some w.heap.size else g.tb k, pl := upd g.pl i x }, ⟨⟨?_, ?_, hrow, ?_, ?_, hs, hr.d1, hr.d2, hr.d3, ?_, ?_⟩, ?_, rfl, rfl, ?_⟩, rfl, rfl, rfl⟩
    · exact hr.hb.mod hm hr.d1
    · exact owns_same hr.hi fun k hk => hm.block k (hlt k (.inr (.inl hk))) (fun e => hr.d3 (by rw [hk, e]))
    · intro j q hj hjq
      simp only at hjq
      split at hjq
      · rename_i ej
        obtain rfl := Option.some.inj hjq
        subst ej
        exact hb
      · rename_i ej
        show Blk w' q _ (plRow (upd g.pl i x) j)
        rw [plRow_other _ _ _ _ ej]
        exact (hr.ht j q hj hjq).mod hm (hr.d4 j q hj hjq).2.1
    · intro j hj hjq k hk
      simp only at hjq
      split at hjq
      · cases hjq
      · rename_i ej
        show upd g.pl i x _ = 0
        have : 64 * j + k ≠ i := by omega
        simp only [upd, if_neg this]
        exact hr.hn j hj hjq k hk
    · intro j q hj hjq
      simp only at hjq
      split at hjq
      · obtain rfl := Option.some.inj hjq
        refine ⟨?_, ?_, fun h => ?_⟩
        · have := hlt g.b (.inl rfl); show w.heap.size ≠ g.b; omega
        · have := hlt g.pb (.inr (.inr (.inl rfl))); show w.heap.size ≠ g.pb; omega
        · have := hlt _ (.inr (.inl h)); omega
      · exact hr.d4 j q hj hjq
    · intro j j' q hj hj' hjq hjq'
      simp only at hjq hjq'
      split at hjq <;> split at hjq'
      · omega
      · obtain rfl := Option.some.inj hjq
        have := hlt _ (.inr (.inr (.inr ⟨j', hj', hjq'⟩)))
        omega
      · obtain rfl := Option.some.inj hjq'
        have := hlt _ (.inr (.inr (.inr ⟨j, hj, hjq⟩)))
        omega
      · exact hr.d5 j j' q hj hj' hjq hjq'
    · exact hm.mono fun k _ e => .inr (.inr (.inl e))
    · rintro k (h | h | h | ⟨j, hj, h⟩)
      · exact .inl (.inl h)
      · exact .inl (.inr (.inl h))
      · exact .inl (.inr (.inr (.inl h)))
      · simp only at h
        split at h
        · obtain rfl := Option.some.inj h
          exact .inr (Nat.le_refl _)
        · exact .inl (.inr (.inr (.inr ⟨j, hj, h⟩)))
  | some q =>
    rw [hq] at c1
    have hB := hr.ht _ q hnp hq
    have c2 := hB.cell (plRow_get g.pl (i / 64) (i % 64) (by omega))
    refine (put_some g.b g.pb g.np q i p _ w c0 hnp hnp2 c1 c2 (hB.free _) (by omega) (by omega)).mono ?_
    rintro e w' ⟨rfl, rfl⟩
    have hd := hr.d4 _ q hnp hq
    have hB2 := hB.set (i % 64) (.int .i64 (p + 1))
    rw [ex, plRow_set] at hB2
    rw [ex]
    refine ⟨rfl, { g with pl := upd g.pl i x }, ⟨⟨?_, ?_, ?_, ?_, ?_, hs, hr.d1, hr.d2, hr.d3, hr.d4, hr.d5⟩, ?_, rfl, rfl, fun k hk => .inl hk⟩, rfl, rfl, rfl⟩
    · exact hr.hb.other _ _ hd.1.symm
    · exact owns_same hr.hi fun k hk => Below.heap_setCell _ _ _ _ (fun e => hd.2.2 (by rw [hk, e]))
    · exact hr.hp.other _ _ hd.2.1.symm
    · intro j q' hj hjq
      by_cases ej : j = i / 64
      · subst ej
        obtain rfl : q = q' := Option.some.inj (hq.symm.trans hjq)
        exact hB2
      · show Blk _ q' _ (plRow (upd g.pl i x) j)
        rw [plRow_other _ _ _ _ ej]
        exact (hr.ht j q' hj hjq).other _ _ (fun e => ej (hr.d5 j _ q hj hnp (by rw [hjq, e]) hq))
    · intro j hj hjq k hk
      show upd g.pl i x _ = 0
      have : 64 * j + k ≠ i := by
        intro e
        have : j = i / 64 := by omega
        rw [this, hq] at hjq
        cases hjq
      simp only [upd, if_neg this]
      exact hr.hn j hj hjq k hk
    · exact (Mod.refl _ _).setCell _ (fun _ => .inr (.inr (.inr ⟨_, hnp, hq⟩))) _

set_option maxHeartbeats 400000 in
theorem new_low (n : Int) (w : World) (h : n < 0 ∨ 65536 < n) :
    Calls Try.prog 44 #[.int .i64 n] w (Ret (.tuple #[.pointer none, .int .i64 2]) w) := by
  go_enter Try.func44, Try.ntmps44
  go_wp2
  all_goals
    go_ret2
    exact ⟨rfl, rfl⟩

theorem Try.infoPB : (Try.prog.info? 111).map (fun i => (i.zero, i.size, i.bytes)) = some (some (.pointer none), 1, 8) := by kernel_rfl

structure NewPost (n : Nat) (w : World) (e : Ending) (w' : World) : Prop where
  bel : Below w.heap.size w w'
  out : ∃ g, HRep w' g ∧ g.slots = n ∧ g.it = [] ∧ g.pl = (fun _ => 0) ∧ (∀ k, g.foot k → w.heap.size ≤ k) ∧ e = .returned (.tuple #[.pointer (some ⟨g.b, 0, none⟩), .int .i64 0])

set_option maxHeartbeats 400000 in
theorem new_ok (n : Nat) (w : World) (h : n ≤ 65536) :
    Calls Try.prog 44 #[.int .i64 n] w (NewPost n w) := by
  go_enter Try.func44, Try.ntmps44
  go_wp2_with (at_make; refine wpList_makeB 111 (.pointer none) 8 Try.underlying88 Try.infoPB rfl _ _ _ _ ((n + 63) / 64) rfl rfl (by omega) (by omega) (by omega) (by unfold maxLen; omega) ?_; intro w1 B1 hb1)
  go_ret2
  have hlt := B1.lt
  have hsz := hb1.size
  refine ⟨hb1.alloc hsz _, ⟨w1.heap.size, n, .slice none 0 0, [], w.heap.size, fun _ => none, fun _ => 0⟩, ⟨?_, ?_, ?_, ?_, ?_, h, ?_, ?_, ?_, ?_, ?_⟩, rfl, rfl, rfl, ?_, rfl⟩
  · exact Blk.new _ _ _
  · exact ⟨rfl, .inl ⟨rfl, rfl⟩⟩
  · have : tbRow ((n + 63) / 64) (fun _ => none) = List.replicate ((n + 63) / 64) (.pointer none) := by
      simp [tbRow, List.map_const']
    show Blk _ _ _ (tbRow ((n + 63) / 64) (fun _ => none))
    rw [this]
    exact B1.alloc _
  · intro j q _ hq; cases hq
  · intro j _ _ k _; rfl
  · show w1.heap.size ≠ w.heap.size; omega
  · exact fun hh => by cases hh
  · exact fun hh => by cases hh
  · intro j q _ hq; cases hq
  · intro j j' q _ _ hq; cases hq
  · rintro k (hk | hk | hk | ⟨j, hj, hk⟩)
    · show w.heap.size ≤ k; rw [show k = w1.heap.size from hk]; exact hsz
    · cases hk
    · exact Nat.le_of_eq hk.symm
    · cases hk

end Go.Proofs.Ytebclbpibafkdaa
