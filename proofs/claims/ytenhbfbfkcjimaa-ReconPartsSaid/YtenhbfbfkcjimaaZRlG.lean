/- The statements about the trees of graphs: what they begin with. ReconValid. -/
import Derived.Test.YtenhbfbfkcjimaaZRlC
import Derived.Test.YtenhbfbfkcjimaaZRlE
import Derived.Test.YtenhbfbfkcjimaaZMgB
import Derived.Deep.RegionHeld3
namespace Go.Proofs.Ytenhbfbfkcjimaa
set_option linter.unusedVariables false
set_option linter.unusedSimpArgs false
open Go.RowKit

/-- What Build returns of edges without a fault. -/
structure BgPost (w : World) (n : Nat) (L : List Ed) (e : Ending) (w' : World) : Prop where
  out : ∃ B : BB, e = .returned (.tuple #[(B.ta (n + FN n L)).agg (bdL n L), .int .i64 0]) ∧ BdT w' B n (n + FN n L) (bdL n L) ∧ ∀ k, B.mem k → w.heap.size ≤ k
  bel : Below w.heap.size w w'

theorem owns_nil_cap {w : World} {T size n : Nat} {ao : Option Addr} {m cap : Nat} {xs : List Value} (h : w.ownsRow 0 T size (.slice ao m cap) n xs) : ao = none → cap = 0 := by
  intro e
  subst e
  rcases h.2 with ⟨h', _⟩ | ⟨g, cap', cur, h', _⟩
  · injection h'
  · cases h'

theorem build_g (w : World) (n : Nat) (v : Value) (L : List Ed) (hg : GOk n L) (hown : w.ownsRow 0 59 3 v L.length (edCells L)) :
    ∃ ao cap, v = .slice ao L.length cap ∧ Calls Try.prog 12 #[.int .i64 n, .slice ao L.length cap] w (BgPost w n L) := by
  obtain ⟨ao, cap, b, rfl, he, _⟩ := ERow.of_owns hown
  have h1 := hg.hn
  have h2 := hg.hl
  refine ⟨ao, cap, rfl, (rbuild_ok w n ao L.length cap b 0 L he (by omega) (owns_nil_cap hown) (by omega)).mono fun e w' h => ⟨?_, h.bel⟩⟩
  obtain ⟨B, rfl, hbt, hn⟩ := h.ok hg.err
  have htv := bdL_tv3 hg
  have e1 : (bdL n L).lv = (n : Int) := htv.lv
  refine ⟨B, ?_, ?_, hn⟩
  · rw [Int.toNat_natCast]
    show _ = Ending.returned (.tuple #[.agg #[.int .i64 (bdL n L).lv, .slice (some ⟨B.lb, 0, none⟩) (bdL n L).left.length (n + FN n L), .slice (some ⟨B.rb, 0, none⟩) (bdL n L).right.length (n + FN n L), .slice (some ⟨B.pb, 0, none⟩) (bdL n L).par.length (n + FN n L), .slice (some ⟨B.hb, 0, none⟩) (bdL n L).hgt.length (n + FN n L), .slice (some ⟨B.sb, 0, none⟩) (bdL n L).siz.length (n + FN n L)], .int .i64 0])
    rw [e1, htv.ll, htv.rl, htv.hl, htv.sl, htv.pl]
  · rw [Int.toNat_natCast, htv.pl] at hbt
    exact hbt

/-- All that is known of the tree of a graph. -/
structure GTree (n m : Nat) (L : List Ed) (T : Tr) (ls : List Nat) : Prop where
  g : GOk n L
  eq : T = bdL n L
  meq : m = n + FN n L
  lseq : ls = lsB n L (FN n L)
  tv : TV T n m ls
  ls : lsL T = some ls
  two : m ≤ 2 * n

theorem gtree {n : Nat} {L : List Ed} (hg : GOk n L) : GTree n (n + FN n L) L (bdL n L) (lsB n L (FN n L)) :=
  ⟨hg, rfl, rfl, rfl, bdL_tv3 hg, (bdL_tv3 hg).ls_some, (bdL_tv3 hg).two⟩

theorem GTree.roots {n m : Nat} {L : List Ed} {T : Tr} {ls : List Nat} (h : GTree n m L T ls) : rootsO T = some (rootsL T n m ls) := by
  rw [rootsO_some h.ls, h.tv.lv, h.tv.pl, Int.toNat_natCast]
theorem GTree.leaves {n m : Nat} {L : List Ed} {T : Tr} {ls : List Nat} (h : GTree n m L T ls) {x : Nat} (hx : x < m) : leavesO T x = some (leavesL T n m x) := by
  rw [leavesO_some h.ls (by rw [h.tv.pl]; omega), h.tv.lv, h.tv.pl, Int.toNat_natCast, Int.toNat_natCast]
theorem GTree.labs {n m : Nat} {L : List Ed} {T : Tr} {ls : List Nat} (h : GTree n m L T ls) (th : Int) : labsO T th = some (labelsL T n m ls th) := by
  rw [labsO_some h.ls, h.tv.lv, h.tv.pl, Int.toNat_natCast]
theorem GTree.top {n m : Nat} {L : List Ed} {T : Tr} {ls : List Nat} (h : GTree n m L T ls) (th : Int) {v : Nat} (hv : v < n) : topV T v th = (((ab T m th v : Nat) : Int), 0) := by
  unfold topV
  rw [if_neg (by rw [h.ls]; simp), if_neg (by rw [h.tv.lv]; omega), h.tv.pl, Int.toNat_natCast]

-- LAYER
/-- The tree by value, and its box, in numbers. -/
abbrev gA (n m : Nat) (A : TA) : Value := .agg #[.int .i64 (n : Int), .slice A.l.o m A.l.c, .slice A.r.o m A.r.c, .slice A.p.o m A.p.c, .slice A.h.o m A.h.c, .slice A.s.o m A.s.c]
theorem GTree.agg {n m : Nat} {L : List Ed} {T : Tr} {ls : List Nat} (h : GTree n m L T ls) (A : TA) : A.agg T = .agg #[.int .i64 (n : Int), .slice A.l.o m A.l.c, .slice A.r.o m A.r.c, .slice A.p.o m A.p.c, .slice A.h.o m A.h.c, .slice A.s.o m A.s.c] := by
  show Value.agg #[.int .i64 T.lv, .slice A.l.o T.left.length A.l.c, .slice A.r.o T.right.length A.r.c, .slice A.p.o T.par.length A.p.c, .slice A.h.o T.hgt.length A.h.c, .slice A.s.o T.siz.length A.s.c] = _
  rw [h.tv.lv, h.tv.ll, h.tv.rl, h.tv.pl, h.tv.hl, h.tv.sl]

def GBox (W : World) (x n m : Nat) (A : TA) : Prop := Blk W x 27 [.int .i64 (n : Int), .slice A.l.o m A.l.c, .slice A.r.o m A.r.c, .slice A.p.o m A.p.c, .slice A.h.o m A.h.c, .slice A.s.o m A.s.c]
theorem GBox.new (w : World) (n m : Nat) (A : TA) : GBox (w.alloc (.cells #[.int .i64 (n : Int), .slice A.l.o m A.l.c, .slice A.r.o m A.r.c, .slice A.p.o m A.p.c, .slice A.h.o m A.h.c, .slice A.s.o m A.s.c] 27)) w.heap.size n m A := Blk.new _ _ _
theorem GBox.below {W W' : World} {x n m : Nat} {A : TA} (h : GBox W x n m A) (hb : Below W.heap.size W W') : GBox W' x n m A := Blk.below h hb (Blk.lt h)
theorem GBox.six {W : World} {x n m : Nat} {A : TA} (h : GBox W x n m A) : W.cell? ⟨x, 0, none⟩ = some (.int .i64 (n : Int)) ∧ W.cell? ⟨x, 1, none⟩ = some (.slice A.l.o m A.l.c) ∧ W.cell? ⟨x, 2, none⟩ = some (.slice A.r.o m A.r.c) ∧ W.cell? ⟨x, 3, none⟩ = some (.slice A.p.o m A.p.c) ∧
    W.cell? ⟨x, 4, none⟩ = some (.slice A.h.o m A.h.c) ∧ W.cell? ⟨x, 5, none⟩ = some (.slice A.s.o m A.s.c) :=
  ⟨Blk.cell h (i := 0) rfl, Blk.cell h (i := 1) rfl, Blk.cell h (i := 2) rfl, Blk.cell h (i := 3) rfl, Blk.cell h (i := 4) rfl, Blk.cell h (i := 5) rfl⟩

theorem LnPost.some {w w' : World} {l : List Nat} {e : Ending} (h : LnPost w (some l) e w') : RowPost w 3 1 l.length (natV l) e w' := by
  obtain ⟨v, e1, h1, h2⟩ := h.ok l rfl
  exact ⟨v, e1, h1, h.bel, h2⟩

section
variable {n m : Nat} {L : List Ed} {T : Tr} {ls : List Nat} (hg : GTree n m L T ls) {A : TA} {W : World} (ht : TreeAt W A T)
include hg ht
theorem gcheck_ok : Calls Try.prog 16 #[gA n m A] W (RetB (.int .i64 0) W) := by
  have := check_ok W A T ht
  rw [chk_some hg.ls, hg.agg A] at this
  exact this
theorem groots_ok : Calls Try.prog 17 #[gA n m A] W (RowPost W 3 1 (rootsL T n m ls).length (natV (rootsL T n m ls))) := by
  have := roots_ok W A T ht
  rw [hg.roots, hg.agg A] at this
  exact this.mono fun _ _ h => h.some
theorem gleast_ok : Calls Try.prog 21 #[gA n m A] W (RowPost W 3 1 m (natV ls)) := by
  have := least_ok W A T ht
  rw [hg.ls, hg.agg A] at this
  have e := hg.tv.lsl
  subst e
  exact this.mono fun _ _ h => h.some
theorem gleaves_ok (x : Nat) (hx : x < m) : Calls Try.prog 22 #[gA n m A, .int .i64 x] W (RowPost W 3 1 (leavesL T n m x).length (natV (leavesL T n m x))) := by
  have := leaves_ok W A T ht x
  rw [hg.leaves hx, hg.agg A] at this
  exact this.mono fun _ _ h => h.some
theorem gtop_ok (v : Nat) (hv : v < n) (th : Int) : Calls Try.prog 19 #[gA n m A, .int .i64 v, .int .i64 th] W (RetB (.tuple #[.int .i64 ((ab T m th v : Nat) : Int), .int .i64 0]) W) := by
  have := top_ok W A T ht v th
  rw [hg.top th hv, hg.agg A] at this
  exact this
structure LabPost (w : World) (n : Nat) (l : List Nat) (e : Ending) (w' : World) : Prop where
  out : ∃ v, e = .returned (.tuple #[v, .int .i64 0]) ∧ NewRow w 3 1 n (natV l) v w'
omit hg ht in
theorem labels_len (T : Tr) (n m : Nat) (ls : List Nat) (th : Int) : (labelsL T n m ls th).length = n := by unfold labelsL; simp
theorem glabels_ok (th : Int) : Calls Try.prog 18 #[gA n m A, .int .i64 th] W (LabPost W n (labelsL T n m ls th)) := by
  have := labels_ok W A T ht th
  rw [hg.agg A] at this
  refine this.mono fun _ _ h => ?_
  obtain ⟨v, e1, h1, h2⟩ := h.ok _ (hg.labs th)
  rw [labels_len] at h1
  exact ⟨v, e1, h1, h.bel, h2⟩
end

theorem six_keepG {W w' : World} {x n m : Nat} {A : TA} (h : Hid (GBox W x n m A)) (hb : Below W.heap.size W w') :
    w'.cell? ⟨x, 0, none⟩ = some (.int .i64 (n : Int)) ∧ w'.cell? ⟨x, 1, none⟩ = some (.slice A.l.o m A.l.c) ∧ w'.cell? ⟨x, 2, none⟩ = some (.slice A.r.o m A.r.c) ∧ w'.cell? ⟨x, 3, none⟩ = some (.slice A.p.o m A.p.c) ∧
    w'.cell? ⟨x, 4, none⟩ = some (.slice A.h.o m A.h.c) ∧ w'.cell? ⟨x, 5, none⟩ = some (.slice A.s.o m A.s.c) ∧ Below W.heap.size W w' := by
  obtain ⟨a, b, c, d, e, f⟩ := (h.out.below hb).six
  exact ⟨a, b, c, d, e, f, hb⟩

set_option maxHeartbeats 8000000 in
set_option maxRecDepth 100000 in
theorem valid_law (w : World) (sz : Nat) (hsz : sz ≤ 255) (ao : Option Addr) (len cap b off : Nat) (F : Nat → Nat → Nat) (hr : BRow w ao len b off F) :
    Calls Try.prog 4 #[.int .u8 sz, .slice ao len cap] w (RetB (.bool true) w) := by
  have HR := Lib.hid hr
  clear hr
  go_enter Try.func4, Try.ntmps4
  go_wp2_with fail
  with_reducible refine (edges_ok w sz hsz ao len cap b off F HR.out).mono ?_
  rintro e w2 ⟨v, rfl, hnr⟩
  have hn50 : 1 ≤ 1 + sz % 50 ∧ 1 + sz % 50 ≤ 50 := by omega
  have hg := egF_ok hn50 F len
  obtain ⟨L, hL⟩ : ∃ L, egF (1 + sz % 50) F len = L := ⟨_, rfl⟩
  rw [hL] at hnr hg
  clear hL
  generalize 1 + sz % 50 = n at *
  obtain ⟨a1, k1, rfl, hcon⟩ := build_g w2 n v L hg hnr.own
  have HNR := Lib.hid hnr
  have HB2 := Lib.hid hnr.bel
  have hgt0 := gtree hg
  have HCON := Lib.hid hcon
  clear hnr hcon hg HR
  go_wp2_with fail
  with_reducible refine (HCON.out).mono ?_
  rintro e w3 ⟨⟨B, rfl, hbt, hbm⟩, hb⟩
  clear HCON
  obtain ⟨T, hT⟩ : ∃ T, bdL n L = T := ⟨_, rfl⟩
  obtain ⟨m, hm⟩ : ∃ m, n + FN n L = m := ⟨_, rfl⟩
  obtain ⟨ls, hls⟩ : ∃ ls, lsB n L (FN n L) = ls := ⟨_, rfl⟩
  rw [hT, hm, hls] at hgt0
  rw [hT, hm] at hbt
  rw [hT, hm]
  have HGT := Lib.hid hgt0
  have hm2 := hgt0.two
  have hnm := hgt0.tv.nm
  have hn4 := hgt0.tv.hn
  have ht3 := hbt.tree (by rw [hgt0.tv.lv]; omega) (by omega)
  have HBT := Lib.hid hbt
  have HBM := Lib.hid hbm
  clear hT hm hls hbt hbm
  obtain ⟨A, hA⟩ : ∃ A, B.ta m = A := ⟨_, rfl⟩
  rw [hA] at ht3
  rw [hA, hgt0.agg A]
  have HBX := Lib.hid (bel_alloc w3 (.cells #[.int .i64 (n : Int), .slice A.l.o m A.l.c, .slice A.r.o m A.r.c, .slice A.p.o m A.p.c, .slice A.h.o m A.h.c, .slice A.s.o m A.s.c] 27))
  have HX := Lib.hid (GBox.new w3 n m A)
  have HT := Lib.hid (ht3.below HBX.out)
  have HB3 := Lib.hid (bel_then HB2.out (bel_then hb HBX.out))
  have HAB := Lib.hid hA
  clear ht3 hb hA hgt0
  obtain ⟨c0, c1, c2, c3, c4, c5⟩ := HX.out.six
  have tn : ((n : Int) != (n : Int)) = false := by simp
  go_wp2_with fail
  clear HBX
  have hxb : ∃ x, x = w3.heap.size := ⟨_, rfl⟩
  clear hxb
  generalize w3.heap.size = xb at *
  generalize w3.alloc (.cells #[.int .i64 (n : Int), .slice A.l.o m A.l.c, .slice A.r.o m A.r.c, .slice A.p.o m A.p.c, .slice A.h.o m A.h.c, .slice A.s.o m A.s.c] 27) = W at *
  with_reducible refine (gcheck_ok HGT.out HT.out).mono ?_
  rintro e w4 ⟨rfl, hb⟩
  have HX4 := Lib.hid (HX.out.below hb)
  have HT4 := Lib.hid (HT.out.below hb)
  have HB4 := Lib.hid (bel_then HB3.out hb)
  clear hb c0 c1 c2 c3 c4 c5 HX HT HB3
  obtain ⟨c0, c1, c2, c3, c4, c5⟩ := HX4.out.six
  obtain ⟨R, HRR⟩ : ∃ R, Hid ((rootsL T n m ls).length = R) := ⟨_, rfl⟩
  have hcnt : m - n + R = n := by rw [← HRR.out]; exact HGT.out.tv.count
  have s1 : IntKind.i64.wrap ((m : Int) - (n : Int)) = (m : Int) - (n : Int) := IntWalk.i64_in _ (by omega)
  have s2 : IntKind.i64.wrap ((m : Int) - (n : Int) + (R : Int)) = (n : Int) := by rw [IntWalk.i64_in _ (by omega)]; omega
  have tn2 : ((n : Int) == (n : Int)) = true := by simp
  clear hcnt
  go_wp2_with fail
  go_region_held3 (fun w' => w'.cell? ⟨xb, 0, none⟩ = some (.int .i64 (n : Int)) ∧ w'.cell? ⟨xb, 1, none⟩ = some (.slice A.l.o m A.l.c) ∧ w'.cell? ⟨xb, 2, none⟩ = some (.slice A.r.o m A.r.c) ∧ w'.cell? ⟨xb, 3, none⟩ = some (.slice A.p.o m A.p.c) ∧ w'.cell? ⟨xb, 4, none⟩ = some (.slice A.h.o m A.h.c) ∧ w'.cell? ⟨xb, 5, none⟩ = some (.slice A.s.o m A.s.c) ∧ Below w4.heap.size w4 w')
    (((try go_split_ands); refine six_keepG HX4 ?_; first | assumption | exact (Below.refl _ _).drew | exact Below.drew (by assumption)))
    (first
      | (go_at_call 17; (try go_split_ands); have hbw := (by assumption : Below w4.heap.size w4 _); (with_reducible refine (groots_ok HGT.out (HT4.out.below hbw)).mono ?_); rintro e wa ⟨va, rfl, hnr⟩; rw [HRR.out] at hnr; obtain ⟨aa, ka, rfl⟩ := owns_slice hnr.own; have hy := bel_then hbw hnr.bel; clear hbw hnr)
      | (go_at_call 11; (try go_split_ands); have hbw := (by assumption : Below w4.heap.size w4 wa); (with_reducible refine (rworks_ok wa).mono ?_); rintro e wb ⟨rfl, hx⟩; have hz := bel_then hbw hx; clear hbw hx hy))
  all_goals
    have HZ := Lib.hid (bel_then HB4.out hz)
    go_wp2_with fail
    go_ret
    exact ⟨rfl, HZ.out⟩

end Go.Proofs.Ytenhbfbfkcjimaa
