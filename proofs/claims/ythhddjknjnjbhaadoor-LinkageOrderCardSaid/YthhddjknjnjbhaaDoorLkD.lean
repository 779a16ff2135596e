/- linkage: the clusters; distance. -/
import Derived.Test.YthhddjknjnjbhaaDoorLkC
import Derived.Test.YthhddjknjnjbhaaDoorLkO
namespace Go.Proofs.YthhddjknjnjbhaaDoor
set_option linter.unusedVariables false
set_option linter.unusedSimpArgs false
open Go.RowKit

def clRow (n : Nat) (m : Int) (sz : List Int) (v : Value) : List Value := .int .i64 n :: .int .i64 m :: mixF m :: (sz.map (fun x => Value.int .i64 x) ++ [v])

/-- The clusters lie at c. -/
structure CObj (w : World) (c n : Nat) (m : Int) (sz : List Int) (v : Value) (bt : List Int) : Prop where
  blk : Blk w c 64 (clRow n m sz v)
  row : w.ownsRow 0 2 1 v bt.length (bt.map fun x => .int .i64 x)
  ne : v.ownBlock ≠ some c
  szl : sz.length = 128

theorem clRow_sz {n : Nat} {m : Int} {sz : List Int} {v : Value} {i : Nat} (hl : sz.length = 128) (h : i < 128) : (clRow n m sz v)[3 + i]? = some (.int .i64 (sz.getD i 0)) := by
  unfold clRow
  rw [show 3 + i = i + 1 + 1 + 1 by omega, List.getElem?_cons_succ, List.getElem?_cons_succ, List.getElem?_cons_succ, List.getElem?_append_left (by simp; omega)]
  simp [hl, h]

theorem clRow_v {n : Nat} {m : Int} {sz : List Int} {v : Value} (hl : sz.length = 128) : (clRow n m sz v)[131]? = some v := by
  unfold clRow
  rw [show 131 = 128 + 1 + 1 + 1 by omega, List.getElem?_cons_succ, List.getElem?_cons_succ, List.getElem?_cons_succ, List.getElem?_append_right (by simp; omega)]
  simp [hl]

theorem clRow_set {n : Nat} {m : Int} {sz : List Int} {v : Value} {i : Nat} (hl : sz.length = 128) (h : i < 128) (x : Int) : (clRow n m sz v).set (3 + i) (.int .i64 x) = clRow n m (sz.set i x) v := by
  unfold clRow
  rw [show 3 + i = i + 1 + 1 + 1 by omega, List.set_cons_succ, List.set_cons_succ, List.set_cons_succ, List.set_append_left _ _ (by simp; omega), List.map_set]

theorem CObj.c0 {w : World} {c n : Nat} {m : Int} {sz : List Int} {v : Value} {bt : List Int} (h : CObj w c n m sz v bt) : w.cell? ⟨c, 0, none⟩ = some (.int .i64 n) := h.blk.cell (i := 0) rfl
theorem CObj.c1 {w : World} {c n : Nat} {m : Int} {sz : List Int} {v : Value} {bt : List Int} (h : CObj w c n m sz v bt) : w.cell? ⟨c, 1, none⟩ = some (.int .i64 m) := h.blk.cell (i := 1) rfl
theorem CObj.c2 {w : World} {c n : Nat} {m : Int} {sz : List Int} {v : Value} {bt : List Int} (h : CObj w c n m sz v bt) : w.cell? ⟨c, 2, none⟩ = some (mixF m) := h.blk.cell (i := 2) rfl
theorem CObj.cs {w : World} {c n : Nat} {m : Int} {sz : List Int} {v : Value} {bt : List Int} (h : CObj w c n m sz v bt) {i : Nat} (hi : i < 128) : w.cell? ⟨c, 3 + i, none⟩ = some (.int .i64 (sz.getD i 0)) := h.blk.cell (clRow_sz h.szl hi)
theorem CObj.cv {w : World} {c n : Nat} {m : Int} {sz : List Int} {v : Value} {bt : List Int} (h : CObj w c n m sz v bt) : w.cell? ⟨c, 131, none⟩ = some v := h.blk.cell (clRow_v h.szl)

theorem CObj.mod {F : Nat → Prop} {w w' : World} {c n : Nat} {m : Int} {sz : List Int} {v : Value} {bt : List Int} (h : CObj w c n m sz v bt) (hm : Mod F w w') (hc : ¬ F c) (hv : ∀ k, v.ownBlock = some k → ¬ F k) : CObj w' c n m sz v bt :=
  ⟨h.blk.mod hm hc, owns_mod h.row hm hv, h.ne, h.szl⟩

theorem CObj.below {w w' : World} {c n : Nat} {m : Int} {sz : List Int} {v : Value} {bt : List Int} (h : CObj w c n m sz v bt) (hb : Below w.heap.size w w') : CObj w' c n m sz v bt :=
  h.mod (Mod.of_below (F := fun _ => False) hb) (fun h => h) (fun _ _ h => h)

theorem four_keep {w w' : World} {p q r : Addr} {v1 v2 v3 : Value} (h1 : Hid (w.cell? p = some v1)) (h2 : Hid (w.cell? q = some v2)) (h3 : Hid (w.cell? r = some v3)) (hb : Below w.heap.size w w') :
    w'.cell? p = some v1 ∧ w'.cell? q = some v2 ∧ w'.cell? r = some v3 ∧ Below w.heap.size w w' :=
  ⟨(hb.cell (World.block_lt_of_cell? w _ h1.out)).trans h1.out, (hb.cell (World.block_lt_of_cell? w _ h2.out)).trans h2.out, (hb.cell (World.block_lt_of_cell? w _ h3.out)).trans h3.out, hb⟩

def dD (m : Int) (sz : List Int) (a b : Nat) : Int := if m = 3 then sz.getD a 0 * sz.getD b 0 else 1

set_option maxHeartbeats 4000000 in
set_option maxRecDepth 100000 in
theorem distance_ok (w : World) (c n : Nat) (m : Int) (sz : List Int) (v : Value) (bt : List Int) (h : CObj w c n m sz v bt) (hn : n ≤ 128) (hl : bt.length = n * n) (a b : Nat) (ha : a < n) (hb : b < n)
    (hsz : ∀ i, 0 ≤ sz.getD i 0 ∧ sz.getD i 0 ≤ 128) :
    Calls Tryd.prog 20 #[.pointer (some ⟨c, 0, none⟩), .int .i64 a, .int .i64 b] w (RetB (.agg #[.int .i64 (at2 n bt a b), .int .i64 (dD m sz a b)]) w) := by
  have hx : a * n + b < bt.length := by rw [hl]; exact idx_lt ha hb
  have hlb : bt.length ≤ 16384 := by rw [hl]; exact Nat.mul_le_mul hn hn
  have k0 := h.c0
  have k1 := h.c1
  have k2 := h.cs (i := a) (by omega)
  have k3 := h.cs (i := b) (by omega)
  have k4 := h.cv
  have row := h.row
  obtain ⟨g, cap, rfl, hc1, hc2, hg, hcell, _⟩ := owns_form row (by omega)
  have k5 := hcell (a * n + b) (by omega)
  have e5 : (bt.map fun x => Value.int .i64 x)[a * n + b]? = some (.int .i64 (at2 n bt a b)) := by simp [at2, hx]
  rw [e5] at k5
  have e1 : (a : Int) * (n : Int) = ((a * n : Nat) : Int) := by rw [Int.natCast_mul]
  obtain ⟨ln, HLN⟩ : ∃ ln, Hid (bt.length = ln) := ⟨_, rfl⟩
  rw [HLN.out] at k4 hx hlb hc1
  generalize at2 n bt a b = x at k5
  generalize a * n = an at *
  have K0 := Lib.hid k0
  have K1 := Lib.hid k1
  have K2 := Lib.hid k2
  have K3 := Lib.hid k3
  have K4 := Lib.hid k4
  have K5 := Lib.hid k5
  have HS1 := hsz a
  have HS2 := hsz b
  have HD : Hid (dD m sz a b = if m = 3 then sz.getD a 0 * sz.getD b 0 else 1) := rfl
  clear hcell e5 hsz row hl h
  generalize sz.getD a 0 = sa at *
  generalize sz.getD b 0 = sb at *
  generalize dD m sz a b = dd at *
  clear k1 k2 k3
  go_enter Tryd.func20, Tryd.ntmps20
  go_upto_region 1 with fail
  generalize hW : World.alloc w _ = W
  have B6 : Blk W w.heap.size 33 [.int .i64 0, .int .i64 0] := by rw [← hW]; exact Blk.new w _ _
  have hb1 : Below w.heap.size w W := by rw [← hW]; exact (Below.refl _ _).alloc (Nat.le_refl _) _
  have HSW : Hid (W.heap.size = w.heap.size + 1) := by show _ = _; rw [← hW]; simp
  have HB6 := Lib.hid B6
  have HB := Lib.hid hb1
  have L0 := Lib.hid ((hb1.cell (World.block_lt_of_cell? w _ K0.out)).trans K0.out)
  have L1 := Lib.hid ((hb1.cell (World.block_lt_of_cell? w _ K1.out)).trans K1.out)
  have L2 := Lib.hid ((hb1.cell (World.block_lt_of_cell? w _ K2.out)).trans K2.out)
  have L3 := Lib.hid ((hb1.cell (World.block_lt_of_cell? w _ K3.out)).trans K3.out)
  have L4 := Lib.hid ((hb1.cell (World.block_lt_of_cell? w _ K4.out)).trans K4.out)
  have L5 := Lib.hid ((hb1.cell (World.block_lt_of_cell? w _ K5.out)).trans K5.out)
  clear hW B6 hb1 k0 k4 k5 K0 K1 K2 K3 K4 K5
  have l0 := L0.out
  have l4 := L4.out
  have l5 := L5.out
  obtain ⟨ix, hix⟩ : ∃ ix, an + b = ix := ⟨_, rfl⟩
  have i1 : (ix : Int) < (ln : Int) := by omega
  have w0 : (an : Int) + (b : Int) = (ix : Int) := by omega
  have w1 : IntKind.i64.wrap (an : Int) = (an : Int) := IntWalk.i64_in _ (by omega)
  have w2 : IntKind.i64.wrap (ix : Int) = (ix : Int) := IntWalk.i64_in _ (by omega)
  rw [hix] at l5 L5 hx
  clear hix
  go_cut [7] (fun s7 wx => ∃ p, s7 = .pointer (some ⟨p, 0, none⟩) ∧ Blk wx p 33 [.int .i64 x, .int .i64 1] ∧ Below W.heap.size W wx ∧ W.heap.size ≤ p)
  case first =>
    go_region_held3 (fun w' => w'.cell? ⟨c, 131, none⟩ = some (.slice (some ⟨g, 0, none⟩) ln cap) ∧ w'.cell? ⟨c, 0, none⟩ = some (.int .i64 n) ∧ w'.cell? ⟨g, ix, none⟩ = some (.int .i64 x) ∧ Below W.heap.size W w')
      (((try go_split_ands); refine four_keep L4 L0 L5 ?_; first | assumption | exact ((Below.refl _ _).alloc (Nat.le_refl _) _).drew | exact (Below.refl _ _).drew | exact (Below.drew (by assumption)) | exact (Below.alloc (by assumption) (Below.size (by assumption)) _) | exact bel_set (bel_set (by assumption) (Nat.le_refl _)) (Nat.le_refl _)))
      (fail)
    all_goals
      go_wp2_with fail
      go_meet
      exact ⟨_, rfl, (Blk.new W _ _).drew, ((Below.refl _ _).alloc (Nat.le_refl _) _).drew, Nat.le_refl _⟩
  case rest =>
    obtain ⟨p, rfl, hp, hbx, hpn⟩ := hcut
    have HP := Lib.hid hp
    have HBX := Lib.hid hbx
    have p0 := hp.cell (i := 0) rfl
    have p1 := hp.cell (i := 1) rfl
    have f0 := hp.free 0
    have f1 := hp.free 1
    have hs6 : w.heap.size < W.heap.size := by have := HSW.out; omega
    have q0 := (hbx.cell (p := ⟨w.heap.size, 0, none⟩) hs6).trans (HB6.out.cell (i := 0) rfl)
    have q1 := (hbx.cell (p := ⟨w.heap.size, 1, none⟩) hs6).trans (HB6.out.cell (i := 1) rfl)
    have r0 := (hbx.frozen (p := ⟨w.heap.size, 0, none⟩) hs6).trans (HB6.out.free 0)
    have r1 := (hbx.frozen (p := ⟨w.heap.size, 1, none⟩) hs6).trans (HB6.out.free 1)
    have m1 := (hbx.cell (World.block_lt_of_cell? W _ L1.out)).trans L1.out
    have m2 := (hbx.cell (World.block_lt_of_cell? W _ L2.out)).trans L2.out
    have m3 := (hbx.cell (World.block_lt_of_cell? W _ L3.out)).trans L3.out
    have hne : p ≠ w.heap.size := by omega
    have HBW : Hid (Below w.heap.size w wc) := HB.out.trans (hbx.mono (by omega))
    clear hp hbx l0 l4 l5 L0 L4 L5
    by_cases hm : m = 3
    · subst hm
      have hdd : dd = sa * sb := by rw [HD.out, if_pos rfl]
      subst hdd
      clear HD
      go_upto_region 3 with fail
      have m2' := m2
      have m3' := m3
      have hpr : 0 ≤ sa * sb ∧ sa * sb ≤ 16384 := ⟨Int.mul_nonneg (by omega) (by omega), Int.le_trans (Int.mul_le_mul (by omega : sa ≤ 128) (by omega : sb ≤ 128) (by omega) (by omega)) (by omega)⟩
      refine region_tail 14 (by kernel_rfl) (by kernel_rfl) ?_
      intro w2 hw2
      have d2 : w2.cell? ⟨c, 3 + a, none⟩ = some (.int .i64 sa) := by rw [hw2]; exact m2
      have d3 : w2.cell? ⟨c, 3 + b, none⟩ = some (.int .i64 sb) := by rw [hw2]; exact m3
      have d4 : w2.cell? ⟨p, 0, none⟩ = some (.int .i64 x) := by rw [hw2]; exact p0
      have d5 : w2.cell? ⟨p, 1, none⟩ = some (.int .i64 1) := by rw [hw2]; exact p1
      have d6 : w2.cell? ⟨w.heap.size, 0, none⟩ = some (.int .i64 0) := by rw [hw2]; exact q0
      have d7 : w2.cell? ⟨w.heap.size, 1, none⟩ = some (.int .i64 0) := by rw [hw2]; exact q1
      have f2 : w2.frozen? ⟨p, 0, none⟩ = false := by rw [hw2]; exact f0
      have f3 : w2.frozen? ⟨p, 1, none⟩ = false := by rw [hw2]; exact f1
      have r2 : w2.frozen? ⟨w.heap.size, 0, none⟩ = false := by rw [hw2]; exact r0
      have r3 : w2.frozen? ⟨w.heap.size, 1, none⟩ = false := by rw [hw2]; exact r1
      have HB2 : Hid (Below w.heap.size w w2) := by show Below _ _ _; rw [hw2]; exact HBW.out.drew
      clear hw2 m1 m2 m3 m2' m3' p0 p1 q0 q1 f0 f1 r0 r1
      have t128a : (a : Int) < 128 := by omega
      have t128b : (b : Int) < 128 := by omega
      simp only [List.take_succ_cons, List.take_zero, List.drop_succ_cons, List.drop_zero]
      repeat still_step
      refine wpStill_nil ?_
      go_wp2_with fail
      have hlp : w.heap.size ≤ p := by omega
      refine bodyPost_ret (v := .agg #[.int .i64 x, .int .i64 (sa * sb)]) ?_ rfl ⟨rfl, ?_⟩
      · simp [results, Tryd.results20, go_sem, d6, d7]
      · exact bel_set (bel_set (bel_set HB2.out hlp) (Nat.le_refl _)) (Nat.le_refl _)
    · have t1 : (m == 3) = false := by simp [hm]
      have hdd : dd = 1 := by rw [HD.out, if_neg hm]
      subst hdd
      clear HD hm
      go_wp2_with fail
      refine bodyPost_ret (v := .agg #[.int .i64 x, .int .i64 1]) ?_ rfl ⟨rfl, ?_⟩
      · simp [results, Tryd.results20, go_sem, q0, q1]
      · exact bel_set (bel_set HBW.out (Nat.le_refl _)) (Nat.le_refl _)

end Go.Proofs.YthhddjknjnjbhaaDoor
