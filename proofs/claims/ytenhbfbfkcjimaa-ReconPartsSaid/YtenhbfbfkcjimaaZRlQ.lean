/- The statement ReconParts: the walk. -/
import Derived.Test.YtenhbfbfkcjimaaZMgF
import Derived.Test.YtenhbfbfkcjimaaZMgD
import Derived.Test.YtenhbfbfkcjimaaZRcBw
import Derived.Outline
namespace Go.Proofs.Ytenhbfbfkcjimaa
set_option linter.unusedVariables false
set_option linter.unusedSimpArgs false
open Go.RowKit

theorem allTo_le (T : Tr) (n m : Nat) (ls : List Nat) (i : Nat) : (allTo T n m ls i).length ≤ n := by
  unfold allTo
  have := List.length_filter_le (fun v => decide (rt T m v ∈ (rootsL T n m ls).take i)) (List.range n)
  rw [List.length_range] at this
  exact this
theorem rootsL_le (T : Tr) (n m : Nat) (ls : List Nat) : (rootsL T n m ls).length ≤ n := by
  unfold rootsL
  rw [List.length_map]
  have := List.length_filter_le (fun v => decide (ls.getD (rt T m v) 0 = v)) (List.range n)
  rw [List.length_range] at this
  exact this

abbrev hV (n m lb rb pb hb sb : Nat) : Value := .agg #[.int .i64 (n : Int), .slice (some ⟨lb, 0, none⟩) m m, .slice (some ⟨rb, 0, none⟩) m m, .slice (some ⟨pb, 0, none⟩) m m, .slice (some ⟨hb, 0, none⟩) m m, .slice (some ⟨sb, 0, none⟩) m m]

/-- What each operation of the comparison leaves. -/
def P15 (T : Tr) (n m x p q xb lb rb pb hb sb N b11 k11 : Nat) (i : Nat) (W : World) (v : Value) : Prop :=
  match i with
  | 0 => v = hV n m lb rb pb hb sb
  | 1 => v = .pointer (some ⟨xb, 1, none⟩)
  | 2 => v = .slice (some ⟨lb, 0, none⟩) m m
  | 3 => v = .int .i64 (x : Int)
  | 4 => v = .pointer (some ⟨lb, x, none⟩)
  | 5 => v = .int .i64 (p : Int)
  | 6 => LRow W v (leavesL T n m p)
  | 7 => v = hV n m lb rb pb hb sb
  | 8 => v = .pointer (some ⟨xb, 2, none⟩)
  | 9 => v = .slice (some ⟨rb, 0, none⟩) m m
  | 10 => v = .int .i64 (x : Int)
  | 11 => v = .pointer (some ⟨rb, x, none⟩)
  | 12 => v = .int .i64 (q : Int)
  | 13 => LRow W v (leavesL T n m q)
  | 14 => ∃ ao cap b, v = .slice ao N cap ∧ InRow .i64 W ao N b 0 (nI (leavesL T n m x))
  | 15 => v = .slice (some ⟨b11, 0, none⟩) N k11
  | 16 => v = .bool true
  | _ => v = .bool false

theorem P15.below {T : Tr} {n m x p q xb lb rb pb hb sb N b11 k11 : Nat} {i : Nat} {W W' : World} {v : Value} (h : P15 T n m x p q xb lb rb pb hb sb N b11 k11 i W v) (hw : Below W.heap.size W W') : P15 T n m x p q xb lb rb pb hb sb N b11 k11 i W' v := by
  unfold P15 at h ⊢
  split at h <;> first | exact h | exact LRow.below h hw | (obtain ⟨a, c, b, e, hr⟩ := h; exact ⟨a, c, b, e, hr.below hw⟩)

/-- What each operation of the roots' comparison leaves. -/
def P23 (n m xb lb rb pb hb sb R b13 k13 N b15 k15 j r0 y0 y1 : Nat) (i : Nat) (W : World) (v : Value) : Prop :=
  match i with
  | 0 => v = .slice (some ⟨b15, 0, none⟩) N k15
  | 1 => v = .int .i64 (N : Int)
  | 2 => v = .bool false
  | 3 => v = .bool false
  | 4 => v = .int .i64 ((j + 1 : Nat) : Int)
  | 5 => v = .bool true
  | 6 => v = .bool true
  | 7 => v = hV n m lb rb pb hb sb
  | 8 => v = .slice (some ⟨b13, 0, none⟩) R k13
  | 9 => v = .int .i64 ((j + 1 : Nat) : Int)
  | 10 => v = .int .i64 (j : Int)
  | 11 => v = .pointer (some ⟨b13, j, none⟩)
  | 12 => v = .int .i64 (r0 : Int)
  | 13 => ∃ M cap b, v = .slice (some ⟨b, 0, none⟩) M cap ∧ 0 < M ∧ W.cell? ⟨b, 0, none⟩ = some (.int .i64 (y0 : Int))
  | 14 => ∃ b, v = .pointer (some ⟨b, 0, none⟩) ∧ W.cell? ⟨b, 0, none⟩ = some (.int .i64 (y0 : Int))
  | 15 => v = .int .i64 (y0 : Int)
  | 16 => v = .slice (some ⟨b15, 0, none⟩) N k15
  | 17 => v = .pointer (some ⟨b15, 0, none⟩)
  | 18 => v = .int .i64 (y1 : Int)
  | _ => v = .bool false

theorem P23.below {n m xb lb rb pb hb sb R b13 k13 N b15 k15 j r0 y0 y1 : Nat} {i : Nat} {W W' : World} {v : Value} (h : P23 n m xb lb rb pb hb sb R b13 k13 N b15 k15 j r0 y0 y1 i W v) (hw : Below W.heap.size W W') : P23 n m xb lb rb pb hb sb R b13 k13 N b15 k15 j r0 y0 y1 i W' v := by
  unfold P23 at h ⊢
  split at h <;> first | exact h | (obtain ⟨M, c, b, e, hM, hr⟩ := h; exact ⟨M, c, b, e, hM, (hw.cell (World.block_lt_of_cell? _ _ hr)).trans hr⟩) | (obtain ⟨b, e, hr⟩ := h; exact ⟨b, e, (hw.cell (World.block_lt_of_cell? _ _ hr)).trans hr⟩)

set_option maxHeartbeats 60000000 in
set_option maxRecDepth 100000 in
theorem parts_law (w : World) (sz : Nat) (hsz : sz ≤ 255) (ao : Option Addr) (len cap b off : Nat) (F : Nat → Nat → Nat) (hr : BRow w ao len b off F) :
    Calls Try.prog 9 #[.int .u8 sz, .slice ao len cap] w (RetB (.bool true) w) := by
  have HR := Lib.hid hr
  clear hr
  go_enter Try.func9, Try.ntmps9
  go_wp2_with fail
  with_reducible refine (edges_ok w sz hsz ao len cap b off F HR.out).mono ?_
  rintro e w2 ⟨v, rfl, hnr⟩
  have hn50 : 1 ≤ 1 + sz % 50 ∧ 1 + sz % 50 ≤ 50 := by omega
  have hg := egF_ok hn50 F len
  obtain ⟨L, hL⟩ : ∃ L, egF (1 + sz % 50) F len = L := ⟨_, rfl⟩
  rw [hL] at hnr hg
  clear hL
  generalize 1 + sz % 50 = n at *
  obtain ⟨a1, k1, rfl, hcon⟩ := build_g w2 n v L hg hnr.own
  have HNR := Lib.hid hnr
  have HB2 := Lib.hid hnr.bel
  have hgt0 := gtree hg
  have HCON := Lib.hid hcon
  clear hnr hcon hg HR
  go_wp2_with fail
  with_reducible refine (HCON.out).mono ?_
  rintro e w3 ⟨⟨B, rfl, hbt, hbm⟩, hb⟩
  clear HCON
  obtain ⟨T, hT⟩ : ∃ T, bdL n L = T := ⟨_, rfl⟩
  obtain ⟨m, hm⟩ : ∃ m, n + FN n L = m := ⟨_, rfl⟩
  obtain ⟨ls, hls⟩ : ∃ ls, lsB n L (FN n L) = ls := ⟨_, rfl⟩
  rw [hT, hm, hls] at hgt0
  rw [hT, hm] at hbt
  rw [hT, hm]
  have HGT := Lib.hid hgt0
  have hm2 := hgt0.two
  have hnm := hgt0.tv.nm
  have hn4 := hgt0.tv.hn
  obtain ⟨tb0, lb, rb, pb, hb', sb, ub⟩ := B
  have ht3 : TreeAt w3 (hA lb rb pb hb' sb m) T := hbt.tree (by rw [hgt0.tv.lv]; omega) (by omega)
  have HBT := Lib.hid hbt
  have HBM := Lib.hid hbm
  clear hT hm hls hbt hbm
  rw [show TA.agg (BB.ta ⟨tb0, lb, rb, pb, hb', sb, ub⟩ m) T = .agg #[.int .i64 (n : Int), .slice (some ⟨lb, 0, none⟩) m m, .slice (some ⟨rb, 0, none⟩) m m, .slice (some ⟨pb, 0, none⟩) m m, .slice (some ⟨hb', 0, none⟩) m m, .slice (some ⟨sb, 0, none⟩) m m] from hgt0.agg _]
  have HBX := Lib.hid (bel_alloc w3 (.cells #[.int .i64 (n : Int), .slice (some ⟨lb, 0, none⟩) m m, .slice (some ⟨rb, 0, none⟩) m m, .slice (some ⟨pb, 0, none⟩) m m, .slice (some ⟨hb', 0, none⟩) m m, .slice (some ⟨sb, 0, none⟩) m m] 27))
  have HX : Hid (HBox (w3.alloc (.cells #[.int .i64 (n : Int), .slice (some ⟨lb, 0, none⟩) m m, .slice (some ⟨rb, 0, none⟩) m m, .slice (some ⟨pb, 0, none⟩) m m, .slice (some ⟨hb', 0, none⟩) m m, .slice (some ⟨sb, 0, none⟩) m m] 27)) w3.heap.size n m lb rb pb hb' sb) := Blk.new _ _ _
  have HT := Lib.hid (ht3.below HBX.out)
  have HB3 := Lib.hid (bel_then HB2.out (bel_then hb HBX.out))
  clear ht3 hb hgt0
  obtain ⟨c0, c1, c2, c3, c4, c5⟩ := HX.out.six
  have tm : ((m : Int) != (m : Int)) = false := by simp
  go_wp2_with fail
  clear HBX
  generalize w3.heap.size = xb at *
  generalize w3.alloc (.cells #[.int .i64 (n : Int), .slice (some ⟨lb, 0, none⟩) m m, .slice (some ⟨rb, 0, none⟩) m m, .slice (some ⟨pb, 0, none⟩) m m, .slice (some ⟨hb', 0, none⟩) m m, .slice (some ⟨sb, 0, none⟩) m m] 27) = W at *
  with_reducible refine (gleast_ok HGT.out HT.out).mono ?_
  rintro e w5 ⟨v9, rfl, hnr⟩
  obtain ⟨a9, k9, b9, rfl, _, _⟩ := own_rowN hnr.own HGT.out.tv.lsl
  have HLS := Lib.hid hnr.own
  have HX5 := Lib.hid (HX.out.below hnr.bel)
  have HT5 := Lib.hid (HT.out.below hnr.bel)
  have HB5 := Lib.hid (bel_then HB3.out hnr.bel)
  clear hnr c0 c1 c2 c3 c4 c5 HX HT HB3
  obtain ⟨c0, c1, c2, c3, c4, c5⟩ := HX5.out.six
  go_wp2_with fail
  clear c0 c1 c2 c3 c4 c5
  generalize Value.tuple #[Value.agg #[Value.int .i64 (n : Int), Value.slice (some ⟨lb, 0, none⟩) m m, Value.slice (some ⟨rb, 0, none⟩) m m, Value.slice (some ⟨pb, 0, none⟩) m m, Value.slice (some ⟨hb', 0, none⟩) m m, Value.slice (some ⟨sb, 0, none⟩) m m], Value.int .i64 0] = V1
  generalize Value.agg #[Value.int .i64 (n : Int), Value.slice (some ⟨lb, 0, none⟩) m m, Value.slice (some ⟨rb, 0, none⟩) m m, Value.slice (some ⟨pb, 0, none⟩) m m, Value.slice (some ⟨hb', 0, none⟩) m m, Value.slice (some ⟨sb, 0, none⟩) m m] = V2
  generalize Value.tuple #[Value.int .i64 (n : Int), Value.slice a1 L.length k1] = V3
  go_loopw [10] (fun s wr => ∃ x : Nat, x ≤ m ∧ s = .int .i64 x ∧ Below w5.heap.size w5 wr) (fun s _ => m - (intOf s).toNat)
  case atStart => exact ⟨0, Nat.zero_le _, rfl, Below.refl _ _⟩
  case round =>
    obtain ⟨x, hxm, rfl, hbr⟩ := hrel
    have HBR := Lib.hid hbr
    have HXR := Lib.hid (HX5.out.below hbr)
    have HTR := Lib.hid (HT5.out.below hbr)
    clear hbr
    obtain ⟨c0, c1, c2, c3, c4, c5⟩ := HXR.out.six
    by_cases hx : x < m
    · have tx : decide (x < m) = true := decide_eq_true hx
      go_wp2_with fail
      with_reducible refine (gleaves_ok HGT.out HTR.out x hx).mono ?_
      rintro e w6 ⟨v11, rfl, hnr⟩
      obtain ⟨hN, hhd⟩ := lv_head HGT.out.tv hx
      have HSZ := Lib.hid (lv_size HGT.out.tv x hx)
      have hNle := lv_len_le T n m x
      obtain ⟨N, hNe⟩ : ∃ N, (leavesL T n m x).length = N := ⟨_, rfl⟩
      have HNE := Lib.hid hNe
      rw [hNe] at hnr hN HSZ hNle
      clear hNe
      obtain ⟨a11, k11, b11, rfl, hin, _⟩ := own_rowN hnr.own HNE.out
      have HIN := Lib.hid hin
      have HX6 := Lib.hid (HXR.out.below hnr.bel)
      have HT6 := Lib.hid (HTR.out.below hnr.bel)
      have HB6 := Lib.hid (HBR.out.trans (hnr.bel.mono HBR.out.size))
      have HLS6 := Lib.hid (owns_mod HLS.out (Mod.of_below (F := fun _ => False) HB6.out) (fun _ _ h => h))
      clear hnr hin c0 c1 c2 c3 c4 c5 HXR HTR HBR
      obtain ⟨c0, c1, c2, c3, c4, c5⟩ := HX6.out.six
      have s1 := hS HGT.out HT6.out hx
      rw [HSZ.out] at s1
      have d1 := HIN.out.cell 0 hN
      rw [nI_at (by rw [HNE.out]; exact hN), hhd] at d1
      have d1' : w6.cell? ⟨b11, 0, none⟩ = some (.int .i64 ((ls.getD x 0 : Nat) : Int)) := d1
      obtain rfl := HIN.out.adr hN
      obtain ⟨a9', k9', b9', e9, hin9, _⟩ := own_rowN HLS6.out HGT.out.tv.lsl
      injection e9 with e91 _ e92
      subst e91 e92
      have d2 := hin9.cell x hx
      rw [nI_at (by rw [HGT.out.tv.lsl]; exact hx), Nat.zero_add] at d2
      obtain rfl := hin9.adr (by omega)
      clear hin9 d1 hhd
      generalize ls.getD x 0 = y at *
      have t1 : ((N : Int) != (N : Int)) = false := by simp
      have t2 : ((N : Int) == 0) = false := by simp; omega
      have t3 : ((y : Int) != (y : Int)) = false := by simp
      have t4 : (x : Int) < (m : Int) := by omega
      have t5 : (0 : Int) ≤ (x : Int) := by omega
      have t6 : (0 : Int) < (N : Int) := by omega
      go_wp2_with fail
      go_quiet (fail)
      have HX7 : Hid (HBox (w6.drewN nq) xb n m lb rb pb hb' sb) := HX6.out.below (bel_drewN (Below.refl _ _) nq)
      have HT7 : Hid (TreeAt (w6.drewN nq) (hA lb rb pb hb' sb m) T) := HT6.out.below (bel_drewN (Below.refl _ _) nq)
      have HB7 := Lib.hid (bel_drewN HB6.out nq)
      have HIN7 : Hid (InRow .i64 (w6.drewN nq) (some ⟨b11, 0, none⟩) N b11 0 (nI (leavesL T n m x))) := HIN.out.below (bel_drewN (Below.refl _ _) nq)
      clear c0 c1 c2 c3 c4 c5 s1 d1' d2 t1 t2 t3 HX6 HT6 HB6 HIN HLS6
      generalize w6.drewN nq = w7 at *
      by_cases hxn : x < n
      · have tn : decide (x < n) = true := decide_eq_true hxn
        clear hxn
        go_wp2_with fail
        go_roundw
        case rel => exact ⟨x + 1, by omega, by go_num, HB7.out⟩
        case measure => simp [intOf]; omega
      · have tn : decide (x < n) = false := decide_eq_false hxn
        obtain ⟨h1, h2, h3, h4, h5, h6, h7⟩ := HGT.out.tv.child (by omega) hx
        have l1 := hL HGT.out HT7.out hx
        have r1 := hR HGT.out HT7.out hx
        rw [h6] at l1
        rw [h7] at r1
        have HPM := Lib.hid (lv_inner HGT.out.tv (by omega) hx)
        clear h4 h5 h6 h7
        generalize lc T x = p at *
        generalize rc T x = q at *
        obtain ⟨c0, c1, c2, c3, c4, c5⟩ := HX7.out.six
        have C1 := Lib.hid l1
        have C2 := Lib.hid r1
        have HPN : Hid (p ≠ q) := h3
        clear hxn h3
        go_wp2_with fail
        go_cut [110] (fun s wx => s = .bool false ∧ Below w7.heap.size w7 wx)
        case first =>
          clear c0 c1 c2 c3 c4 c5 l1 r1
          refine wp_region_facts (by kernel_rfl) (by kernel_rfl) (by kernel_rfl) (P15 T n m x p q xb lb rb pb hb' sb N b11 k11) (fun _ _ _ _ h1 h2 => h1.below h2) ?step ?fin
          case step =>
            intro W i o AA hbw hev hdep ho
            obtain ⟨c0, c1, c2, c3, c4, c5⟩ := (HX7.out.below hbw).six
            have l1 := (hbw.cell (World.block_lt_of_cell? _ _ C1.out)).trans C1.out
            have r1 := (hbw.cell (World.block_lt_of_cell? _ _ C2.out)).trans C2.out
            have h18 : i < 18 := by have := (List.getElem?_eq_some_iff.1 ho).1; simpa using this
            have e7 := hev 7 (by kernel_rfl)
            have e10 := hev 10 (by kernel_rfl)
            have e11 := hev 11 (by kernel_rfl)
            replace e7 : AA.eval (.tmp 7) = .pointer (some ⟨xb, 0, none⟩) := e7
            replace e10 : AA.eval (.tmp 10) = .int .i64 (x : Int) := e10
            replace e11 : AA.eval (.tmp 11) = .slice (some ⟨b11, 0, none⟩) N k11 := e11
            have hcs : i = 0 ∨ i = 1 ∨ i = 2 ∨ i = 3 ∨ i = 4 ∨ i = 5 ∨ i = 6 ∨ i = 7 ∨ i = 8 ∨ i = 9 ∨ i = 10 ∨ i = 11 ∨ i = 12 ∨ i = 13 ∨ i = 14 ∨ i = 15 ∨ i = 16 ∨ i = 17 := by omega
            rcases hcs with rfl | rfl | rfl | rfl | rfl | rfl | rfl | rfl | rfl | rfl | rfl | rfl | rfl | rfl | rfl | rfl | rfl | rfl
            · cases ho
              refine ⟨wanted_free rfl, wp_value (v := hV n m lb rb pb hb' sb) (w' := W) (by simp only [execOp, e7]; simp [go_sem, c0, c1, c2, c3, c4, c5]) ⟨_, rfl, rfl, Below.refl _ _⟩⟩
            · cases ho
              refine ⟨wanted_free rfl, wp_value (v := .pointer (some ⟨xb, 1, none⟩)) (w' := W) (by simp only [execOp, e7]; simp [go_sem, c0]) ⟨_, rfl, rfl, Below.refl _ _⟩⟩
            · cases ho
              have e94 : AA.eval (.tmp 94) = .pointer (some ⟨xb, 1, none⟩) := hdep ⟨1, .data⟩ 94 (by simp) (by rfl) rfl (by simp)
              refine ⟨wanted_free rfl, wp_value (v := .slice (some ⟨lb, 0, none⟩) m m) (w' := W) (by simp only [execOp, e94]; simp [go_sem, c1]) ⟨_, rfl, rfl, Below.refl _ _⟩⟩
            · cases ho
              refine ⟨wanted_free rfl, wp_value (v := .int .i64 (x : Int)) (w' := W) (by simp only [execOp, e10]; simp [go_sem, c0]) ⟨_, rfl, rfl, Below.refl _ _⟩⟩
            · cases ho
              have e95 : AA.eval (.tmp 95) = .slice (some ⟨lb, 0, none⟩) m m := hdep ⟨2, .data⟩ 95 (by simp) (by rfl) rfl (by simp)
              have e96 : AA.eval (.tmp 96) = .int .i64 (x : Int) := hdep ⟨3, .data⟩ 96 (by simp) (by rfl) rfl (by simp)
              refine ⟨wanted_free rfl, wp_value (v := .pointer (some ⟨lb, x, none⟩)) (w' := W) (by simp only [execOp, e95, e96]; simp [go_sem, t4, t5, c0]) ⟨_, rfl, rfl, Below.refl _ _⟩⟩
            · cases ho
              have e97 : AA.eval (.tmp 97) = .pointer (some ⟨lb, x, none⟩) := hdep ⟨4, .data⟩ 97 (by simp) (by rfl) rfl (by simp)
              refine ⟨wanted_free rfl, wp_value (v := .int .i64 (p : Int)) (w' := W) (by simp only [execOp, e97]; simp [go_sem, l1]) ⟨_, rfl, rfl, Below.refl _ _⟩⟩
            · cases ho
              have e93 : AA.eval (.tmp 93) = hV n m lb rb pb hb' sb := hdep ⟨0, .data⟩ 93 (by simp) (by rfl) rfl (by simp)
              have e98 : AA.eval (.tmp 98) = .int .i64 (p : Int) := hdep ⟨5, .data⟩ 98 (by simp) (by rfl) rfl (by simp)
              refine ⟨wanted_free rfl, wp_callf (enters_of Try.func22 (by kernel_rfl) rfl) ?_⟩
              rw [show (#[.tmp 93, .tmp 98] : Array Operand).map AA.eval = #[hV n m lb rb pb hb' sb, .int .i64 (p : Int)] by simp [e93, e98]]
              exact (gleaves_ok HGT.out (HT7.out.below hbw) p (by omega)).mono fun e w' ⟨v, he, hna⟩ => ⟨v, he, v, rfl, LRow.of_own hna.own (Nat.le_trans (lv_len_le _ _ _ _) (by omega)), hna.bel⟩
            · cases ho
              refine ⟨wanted_free rfl, wp_value (v := hV n m lb rb pb hb' sb) (w' := W) (by simp only [execOp, e7]; simp [go_sem, c0, c1, c2, c3, c4, c5]) ⟨_, rfl, rfl, Below.refl _ _⟩⟩
            · cases ho
              refine ⟨wanted_free rfl, wp_value (v := .pointer (some ⟨xb, 2, none⟩)) (w' := W) (by simp only [execOp, e7]; simp [go_sem, c0]) ⟨_, rfl, rfl, Below.refl _ _⟩⟩
            · cases ho
              have e101 : AA.eval (.tmp 101) = .pointer (some ⟨xb, 2, none⟩) := hdep ⟨8, .data⟩ 101 (by simp) (by rfl) rfl (by simp)
              refine ⟨wanted_free rfl, wp_value (v := .slice (some ⟨rb, 0, none⟩) m m) (w' := W) (by simp only [execOp, e101]; simp [go_sem, c2]) ⟨_, rfl, rfl, Below.refl _ _⟩⟩
            · cases ho
              refine ⟨wanted_free rfl, wp_value (v := .int .i64 (x : Int)) (w' := W) (by simp only [execOp, e10]; simp [go_sem, c0]) ⟨_, rfl, rfl, Below.refl _ _⟩⟩
            · cases ho
              have e102 : AA.eval (.tmp 102) = .slice (some ⟨rb, 0, none⟩) m m := hdep ⟨9, .data⟩ 102 (by simp) (by rfl) rfl (by simp)
              have e103 : AA.eval (.tmp 103) = .int .i64 (x : Int) := hdep ⟨10, .data⟩ 103 (by simp) (by rfl) rfl (by simp)
              refine ⟨wanted_free rfl, wp_value (v := .pointer (some ⟨rb, x, none⟩)) (w' := W) (by simp only [execOp, e102, e103]; simp [go_sem, t4, t5, c0]) ⟨_, rfl, rfl, Below.refl _ _⟩⟩
            · cases ho
              have e104 : AA.eval (.tmp 104) = .pointer (some ⟨rb, x, none⟩) := hdep ⟨11, .data⟩ 104 (by simp) (by rfl) rfl (by simp)
              refine ⟨wanted_free rfl, wp_value (v := .int .i64 (q : Int)) (w' := W) (by simp only [execOp, e104]; simp [go_sem, r1]) ⟨_, rfl, rfl, Below.refl _ _⟩⟩
            · cases ho
              have e100 : AA.eval (.tmp 100) = hV n m lb rb pb hb' sb := hdep ⟨7, .data⟩ 100 (by simp) (by rfl) rfl (by simp)
              have e105 : AA.eval (.tmp 105) = .int .i64 (q : Int) := hdep ⟨12, .data⟩ 105 (by simp) (by rfl) rfl (by simp)
              refine ⟨wanted_free rfl, wp_callf (enters_of Try.func22 (by kernel_rfl) rfl) ?_⟩
              rw [show (#[.tmp 100, .tmp 105] : Array Operand).map AA.eval = #[hV n m lb rb pb hb' sb, .int .i64 (q : Int)] by simp [e100, e105]]
              exact (gleaves_ok HGT.out (HT7.out.below hbw) q (by omega)).mono fun e w' ⟨v, he, hna⟩ => ⟨v, he, v, rfl, LRow.of_own hna.own (Nat.le_trans (lv_len_le _ _ _ _) (by omega)), hna.bel⟩
            · cases ho
              have e99 : LRow W (AA.eval (.tmp 99)) (leavesL T n m p) := hdep ⟨6, .data⟩ 99 (by simp) (by rfl) rfl (by simp)
              have e106 : LRow W (AA.eval (.tmp 106)) (leavesL T n m q) := hdep ⟨13, .data⟩ 106 (by simp) (by rfl) rfl (by simp)
              refine ⟨wanted_free rfl, wp_callf (enters_of Try.func24 (by kernel_rfl) rfl) ?_⟩
              rw [show (#[.tmp 99, .tmp 106] : Array Operand).map AA.eval = #[AA.eval (.tmp 99), AA.eval (.tmp 106)] by simp]
              refine (merged_ok W _ _ _ _ (leavesL T n m x) e99 e106 (MgAt.two (lv_sorted _ _ _ _) (lv_sorted _ _ _ _) (lv_sorted _ _ _ _) HPM.out) (Nat.le_trans (lv_len_le _ _ _ _) (by omega))).mono fun e w' ⟨v, he, hna⟩ => ?_
              rw [HNE.out] at hna
              obtain ⟨ac, kc, bc, ev, hic, _⟩ := own_rowN hna.own HNE.out
              exact ⟨v, he, v, rfl, ⟨ac, kc, bc, ev, hic⟩, hna.bel⟩
            · cases ho
              refine ⟨wanted_free rfl, wp_value (v := .slice (some ⟨b11, 0, none⟩) N k11) (w' := W) (by simp only [execOp, e11]; simp [go_sem, c0]) ⟨_, rfl, rfl, Below.refl _ _⟩⟩
            · cases ho
              have e107 : ∃ ao cap b, AA.eval (.tmp 107) = .slice ao N cap ∧ InRow .i64 W ao N b 0 (nI (leavesL T n m x)) := hdep ⟨14, .data⟩ 107 (by simp) (by rfl) rfl (by simp)
              have e108 : AA.eval (.tmp 108) = .slice (some ⟨b11, 0, none⟩) N k11 := hdep ⟨15, .data⟩ 108 (by simp) (by rfl) rfl (by simp)
              obtain ⟨ac, kc, bc, ev, hic⟩ := e107
              refine ⟨wanted_free rfl, wp_callf (enters_of Try.func23 (by kernel_rfl) rfl) ?_⟩
              rw [show (#[.tmp 107, .tmp 108] : Array Operand).map AA.eval = #[.slice ac N kc, .slice (some ⟨b11, 0, none⟩) N k11] by simp [ev, e108]]
              exact (rsame_ok W ac (some ⟨b11, 0, none⟩) N kc k11 bc b11 0 0 _ hic (HIN7.out.below hbw) (by omega)).mono fun e w' ⟨he, hb⟩ => ⟨_, he, _, rfl, rfl, hb⟩
            · cases ho
              have e109 : AA.eval (.tmp 109) = .bool true := hdep ⟨16, .data⟩ 109 (by simp) (by rfl) rfl (by simp)
              refine ⟨wanted_free rfl, wp_value (v := .bool false) (w' := W) (by simp only [execOp, e109]; simp [go_sem, c0]) ⟨_, rfl, rfl, Below.refl _ _⟩⟩
          case fin =>
            intro xs W hbw hall
            have hf : xs 17 = .bool false := hall 17 (by decide)
            have HBW := Lib.hid hbw
            clear hbw hall
            simp only [putAll, Nat.zero_add, Nat.reduceAdd, hf]
            generalize xs 0 = z0
            generalize xs 1 = z1
            generalize xs 2 = z2
            generalize xs 3 = z3
            generalize xs 4 = z4
            generalize xs 5 = z5
            generalize xs 6 = z6
            generalize xs 7 = z7
            generalize xs 8 = z8
            generalize xs 9 = z9
            generalize xs 10 = z10
            generalize xs 11 = z11
            generalize xs 12 = z12
            generalize xs 13 = z13
            generalize xs 14 = z14
            generalize xs 15 = z15
            generalize xs 16 = z16
            clear hf xs C1 C2 HPM HIN7 HX7 HT7 HSZ HNE HLS
            go_wp2_with fail
            simp only [Act.put, List.setIfInBounds_toArray, List.set_cons_zero, List.set_cons_succ]
            go_meet
            exact ⟨rfl, HBW.out⟩
        case rest =>
          obtain ⟨rfl, hb8⟩ := hcut
          have HB8 := Lib.hid (HB7.out.trans (hb8.mono HB7.out.size))
          clear hb8
          go_wp2_with fail
          go_roundw
          case rel => exact ⟨x + 1, by omega, by go_num, HB8.out⟩
          case measure => simp [intOf]; omega
    · have tx : decide (x < m) = false := decide_eq_false hx
      clear hx hxm
      go_wp2_with fail
      clear c0 c1 c2 c3 c4 c5
      with_reducible refine (groots_ok HGT.out HTR.out).mono ?_
      rintro e w6 ⟨v13, rfl, hnr⟩
      obtain ⟨R, hRe⟩ : ∃ R, (rootsL T n m ls).length = R := ⟨_, rfl⟩
      have HRN := Lib.hid hRe
      have hRn := rootsL_le T n m ls
      rw [hRe] at hnr hRn
      clear hRe
      obtain ⟨a13, k13, b13, rfl, hin, _⟩ := own_rowN hnr.own HRN.out
      have HIN := Lib.hid hin
      have HX6 := Lib.hid (HXR.out.below hnr.bel)
      have HT6 := Lib.hid (HTR.out.below hnr.bel)
      have HB6 := Lib.hid (bel_then HB5.out (bel_then HBR.out hnr.bel))
      clear hnr hin HXR HTR HBR HX5 HT5 HB5 HLS
      go_wp2_with fail
      go_loopw [12, 14] (fun s12 s14 wq => ∃ i : Nat, i ≤ R ∧ s14 = .int .i64 i ∧ LRow wq s12 (allTo T n m ls i) ∧ Below w6.heap.size w6 wq) (fun _ s14 _ => R - (intOf s14).toNat)
      case atStart => exact ⟨0, Nat.zero_le _, rfl, by rw [all_zero]; exact ⟨none, 0, 0, 0, rfl, Nat.le_refl _, by omega, ⟨rfl, fun h => absurd h (by simp), fun i hi => absurd hi (by simp)⟩⟩, Below.refl _ _⟩
      case round =>
        obtain ⟨i, hiR, rfl, hlr, hbq⟩ := hrel
        have HLR := Lib.hid hlr
        have HBQ := Lib.hid hbq
        have HXQ := Lib.hid (HX6.out.below hbq)
        have HTQ := Lib.hid (HT6.out.below hbq)
        have HIQ := Lib.hid (HIN.out.below hbq)
        clear hlr hbq
        by_cases hi : i < R
        · have ti : decide (i < R) = true := decide_eq_true hi
          obtain ⟨c0, c1, c2, c3, c4, c5⟩ := HXQ.out.six
          obtain rfl := HIQ.out.adr (by omega)
          have d1 := HIQ.out.cell i hi
          rw [nI_at (by rw [HRN.out]; exact hi), Nat.zero_add] at d1
          obtain ⟨r1, hr1⟩ : ∃ r1, (rootsL T n m ls).getD i 0 = r1 := ⟨_, rfl⟩
          have HR1E := Lib.hid hr1
          have HR1 : Hid (r1 < m) := by
            have hmem : r1 ∈ rootsL T n m ls := by
              rw [← hr1, List.getD_eq_getElem?_getD, List.getElem?_eq_getElem (by rw [HRN.out]; exact hi)]
              exact List.getElem_mem _
            exact ((roots_mem HGT.out.tv).1 hmem).1
          rw [hr1] at d1
          clear hr1
          have ti1 : (i : Int) < (R : Int) := by omega
          have ti0 : (0 : Int) ≤ (i : Int) := by omega
          go_wp2_with fail
          refine region_tailQ 5 (by kernel_rfl) (by kernel_rfl) (by kernel_rfl) ?_
          intro W4 hw4
          replace c0 := hw4.cell c0
          replace c1 := hw4.cell c1
          replace c2 := hw4.cell c2
          replace c3 := hw4.cell c3
          replace c4 := hw4.cell c4
          replace c5 := hw4.cell c5
          replace d1 := hw4.cell d1
          have HX4 := Lib.hid (HXQ.out.below hw4.self)
          have HT4 := Lib.hid (HTQ.out.below hw4.self)
          have HI4 := Lib.hid (HIQ.out.below hw4.self)
          have HL4 := Lib.hid (HLR.out.below hw4.self)
          have HB4 := Lib.hid (hw4.bel HBQ.out)
          clear hw4 HXQ HTQ HIQ HLR HBQ
          simp only [List.take_succ_cons, List.take_zero, List.drop_succ_cons, List.drop_zero]
          repeat (go_big_quiet_step (fail))
          refine wpQuiet_nil ?_
          go_wp2_with fail
          with_reducible refine (gleaves_ok HGT.out HT4.out r1 HR1.out).mono ?_
          rintro e w8 ⟨v15, rfl, hnr⟩
          obtain ⟨hN, hhd⟩ := lv_head HGT.out.tv HR1.out
          have hNle := lv_len_le T n m r1
          obtain ⟨N, hNe⟩ : ∃ N, (leavesL T n m r1).length = N := ⟨_, rfl⟩
          have HNE := Lib.hid hNe
          rw [hNe] at hnr hN hNle
          clear hNe
          obtain ⟨a15, k15, b15, rfl, hin, _⟩ := own_rowN hnr.own HNE.out
          have HV15 : Hid (LRow w8 (.slice a15 N k15) (leavesL T n m r1)) := LRow.of_own (by rw [HNE.out]; exact hnr.own) (by rw [HNE.out]; omega)
          have HX8 := Lib.hid (HX4.out.below hnr.bel)
          have HT8 := Lib.hid (HT4.out.below hnr.bel)
          have HI8 := Lib.hid (HI4.out.below hnr.bel)
          have HL8 := Lib.hid (HL4.out.below hnr.bel)
          have HB8 := Lib.hid (bel_then HB4.out hnr.bel)
          clear hnr c0 c1 c2 c3 c4 c5 HX4 HT4 HI4 HL4 HB4
          obtain ⟨y1, hy1⟩ : ∃ y1, ls.getD r1 0 = y1 := ⟨_, rfl⟩
          have HY1 := Lib.hid hy1
          obtain rfl := hin.adr hN
          have d2 := hin.cell 0 hN
          rw [nI_at (by rw [HNE.out]; exact hN), hhd, hy1] at d2
          have d2' : w8.cell? ⟨b15, 0, none⟩ = some (.int .i64 (y1 : Int)) := d2
          clear hin hhd hy1 d1 d2
          have t2 : ((N : Int) == 0) = false := by simp; omega
          have t6 : (0 : Int) < (N : Int) := by omega
          go_wp2_with fail
          go_cut [146] (fun s wx => s = .bool false ∧ Below w8.heap.size w8 wx)
          case first =>
            obtain ⟨c0, c1, c2, c3, c4, c5⟩ := HX8.out.six
            cases i with
            | zero =>
              go_quiet (fail)
              go_wp2_with fail
              go_meet
              exact ⟨rfl, bel_drewN (Below.refl _ _) _⟩
            | succ j =>
              have HI0 := HI8.out
              have d0 := HI0.cell j (by omega)
              rw [nI_at (by rw [HRN.out]; omega), Nat.zero_add] at d0
              obtain ⟨r0, hr0⟩ : ∃ r0, (rootsL T n m ls).getD j 0 = r0 := ⟨_, rfl⟩
              have HR0 : Hid (r0 < m) := by
                have hmem : r0 ∈ rootsL T n m ls := by
                  rw [← hr0, List.getD_eq_getElem?_getD, List.getElem?_eq_getElem (by rw [HRN.out]; omega)]
                  exact List.getElem_mem _
                exact ((roots_mem HGT.out.tv).1 hmem).1
              have hyy := getD_lt_of_pairwise (f := fun x => ls.getD x 0) (roots_sorted HGT.out.tv) (i := j) (by rw [HRN.out]; omega)
              simp only [hr0, HR1E.out, HY1.out] at hyy
              rw [hr0] at d0
              obtain ⟨y0, hy0⟩ : ∃ y0, ls.getD r0 0 = y0 := ⟨_, rfl⟩
              have HY0 := Lib.hid hy0
              rw [hy0] at hyy
              have HC0 := Lib.hid d0
              have HC1 := Lib.hid d2'
              clear HI0 hr0 hy0 d0 d2' c0 c1 c2 c3 c4 c5
              have ty : decide ((y1 : Int) ≤ (y0 : Int)) = false := decide_eq_false (by omega)
              have tR : (j : Int) < (R : Int) := by omega
              have tj0 : (0 : Int) ≤ (j : Int) := by omega
              have tj : (0 : Int) < ((j + 1 : Nat) : Int) := by omega
              have tw : IntKind.i64.wrap (((j + 1 : Nat) : Int) - 1) = (j : Int) := by
                rw [IntWalk.i64_in _ (by omega)]; omega
              refine wp_region_facts (by kernel_rfl) (by kernel_rfl) (by kernel_rfl) (P23 n m xb lb rb pb hb' sb R b13 k13 N b15 k15 j r0 y0 y1) (fun _ _ _ _ h1 h2 => h1.below h2) ?step ?fin
              case step =>
                intro W i o AA hbw hev hdep ho
                obtain ⟨c0, c1, c2, c3, c4, c5⟩ := (HX8.out.below hbw).six
                have d0 := (hbw.cell (World.block_lt_of_cell? _ _ HC0.out)).trans HC0.out
                have d1 := (hbw.cell (World.block_lt_of_cell? _ _ HC1.out)).trans HC1.out
                have h22 : i < 22 := by have := (List.getElem?_eq_some_iff.1 ho).1; simpa using this
                have e7 := hev 7 (by kernel_rfl)
                have e13 := hev 13 (by kernel_rfl)
                have e14 := hev 14 (by kernel_rfl)
                have e15 := hev 15 (by kernel_rfl)
                replace e7 : AA.eval (.tmp 7) = .pointer (some ⟨xb, 0, none⟩) := e7
                replace e13 : AA.eval (.tmp 13) = .slice (some ⟨b13, 0, none⟩) R k13 := e13
                replace e14 : AA.eval (.tmp 14) = .int .i64 ((j + 1 : Nat) : Int) := e14
                replace e15 : AA.eval (.tmp 15) = .slice (some ⟨b15, 0, none⟩) N k15 := e15
                have hcs : i = 0 ∨ i = 1 ∨ i = 2 ∨ i = 3 ∨ i = 4 ∨ i = 5 ∨ i = 6 ∨ i = 7 ∨ i = 8 ∨ i = 9 ∨ i = 10 ∨ i = 11 ∨ i = 12 ∨ i = 13 ∨ i = 14 ∨ i = 15 ∨ i = 16 ∨ i = 17 ∨ i = 18 ∨ i = 19 ∨ i = 20 ∨ i = 21 := by omega
                rcases hcs with rfl | rfl | rfl | rfl | rfl | rfl | rfl | rfl | rfl | rfl | rfl | rfl | rfl | rfl | rfl | rfl | rfl | rfl | rfl | rfl | rfl | rfl
                · cases ho
                  refine ⟨wanted_free rfl, wp_value (v := .slice (some ⟨b15, 0, none⟩) N k15) (w' := W) (by simp only [execOp, e15]; simp [go_sem, c0]) ⟨_, rfl, rfl, Below.refl _ _⟩⟩
                · cases ho
                  have e125 : AA.eval (.tmp 125) = .slice (some ⟨b15, 0, none⟩) N k15 := hdep ⟨0, .data⟩ 125 (by simp) (by rfl) rfl (by simp)
                  refine ⟨wanted_free rfl, wp_value (v := .int .i64 (N : Int)) (w' := W) (by simp only [execOp, e125]; simp [go_sem, show AA.tmps[125]?.getD undef = .slice (some ⟨b15, 0, none⟩) N k15 by simpa [Act.eval] using e125]) ⟨_, rfl, rfl, Below.refl _ _⟩⟩
                · cases ho
                  have e126 : AA.eval (.tmp 126) = .int .i64 (N : Int) := hdep ⟨1, .data⟩ 126 (by simp) (by rfl) rfl (by simp)
                  refine ⟨wanted_free rfl, wp_value (v := .bool false) (w' := W) (by simp only [execOp, e126]; simp [go_sem, t2]) ⟨_, rfl, rfl, Below.refl _ _⟩⟩
                · cases ho
                  have e127 : AA.eval (.tmp 127) = .bool false := hdep ⟨2, .data⟩ 127 (by simp) (by rfl) rfl (by simp)
                  refine ⟨wanted_free rfl, wp_value (v := .bool false) (w' := W) (by simp only [execOp, e127]; simp [go_sem]) ⟨_, rfl, rfl, Below.refl _ _⟩⟩
                · cases ho
                  have hg : AA.eval (.tmp 128) = .bool false := hdep ⟨3, .guard⟩ 128 (by simp) (by rfl) rfl (by simp)
                  refine ⟨wanted_of (g := 3) (b := false) (d := 128) rfl rfl hg, wp_value (v := .int .i64 ((j + 1 : Nat) : Int)) (w' := W) (by simp only [execOp, e14]; simp [go_sem]) ⟨_, rfl, rfl, Below.refl _ _⟩⟩
                · cases ho
                  have e129 : AA.eval (.tmp 129) = .int .i64 ((j + 1 : Nat) : Int) := hdep ⟨4, .data⟩ 129 (by simp) (by rfl) rfl (by simp)
                  have hg : AA.eval (.tmp 128) = .bool false := hdep ⟨3, .guard⟩ 128 (by simp) (by rfl) rfl (by simp)
                  refine ⟨wanted_of (g := 3) (b := false) (d := 128) rfl rfl hg, wp_value (v := .bool true) (w' := W) (by simp only [execOp, e129]; simp [go_sem, tj]) ⟨_, rfl, rfl, Below.refl _ _⟩⟩
                · cases ho
                  have e130 : AA.eval (.tmp 130) = .bool true := hdep ⟨5, .data⟩ 130 (by simp) (by rfl) rfl (by simp)
                  have hg : AA.eval (.tmp 128) = .bool false := hdep ⟨3, .guard⟩ 128 (by simp) (by rfl) rfl (by simp)
                  refine ⟨wanted_of (g := 3) (b := false) (d := 128) rfl rfl hg, wp_value (v := .bool true) (w' := W) (by simp only [execOp, e130]; simp [go_sem]) ⟨_, rfl, rfl, Below.refl _ _⟩⟩
                · cases ho
                  have hg : AA.eval (.tmp 131) = .bool true := hdep ⟨6, .guard⟩ 131 (by simp) (by rfl) rfl (by simp)
                  refine ⟨wanted_of (g := 6) (b := true) (d := 131) rfl rfl hg, wp_value (v := hV n m lb rb pb hb' sb) (w' := W) (by simp only [execOp, e7]; simp [go_sem, c0, c1, c2, c3, c4, c5]) ⟨_, rfl, rfl, Below.refl _ _⟩⟩
                · cases ho
                  have hg : AA.eval (.tmp 131) = .bool true := hdep ⟨6, .guard⟩ 131 (by simp) (by rfl) rfl (by simp)
                  refine ⟨wanted_of (g := 6) (b := true) (d := 131) rfl rfl hg, wp_value (v := .slice (some ⟨b13, 0, none⟩) R k13) (w' := W) (by simp only [execOp, e13]; simp [go_sem]) ⟨_, rfl, rfl, Below.refl _ _⟩⟩
                · cases ho
                  have hg : AA.eval (.tmp 131) = .bool true := hdep ⟨6, .guard⟩ 131 (by simp) (by rfl) rfl (by simp)
                  refine ⟨wanted_of (g := 6) (b := true) (d := 131) rfl rfl hg, wp_value (v := .int .i64 ((j + 1 : Nat) : Int)) (w' := W) (by simp only [execOp, e14]; simp [go_sem]) ⟨_, rfl, rfl, Below.refl _ _⟩⟩
                · cases ho
                  have e134 : AA.eval (.tmp 134) = .int .i64 ((j + 1 : Nat) : Int) := hdep ⟨9, .data⟩ 134 (by simp) (by rfl) rfl (by simp)
                  have hg : AA.eval (.tmp 131) = .bool true := hdep ⟨6, .guard⟩ 131 (by simp) (by rfl) rfl (by simp)
                  refine ⟨wanted_of (g := 6) (b := true) (d := 131) rfl rfl hg, wp_value (v := .int .i64 (j : Int)) (w' := W) (by simp only [execOp, e134]; simp [go_sem, show IntKind.i64.wrap (j : Int) = (j : Int) from IntWalk.i64_in _ (by omega)]) ⟨_, rfl, rfl, Below.refl _ _⟩⟩
                · cases ho
                  have e133 : AA.eval (.tmp 133) = .slice (some ⟨b13, 0, none⟩) R k13 := hdep ⟨8, .data⟩ 133 (by simp) (by rfl) rfl (by simp)
                  have e135 : AA.eval (.tmp 135) = .int .i64 (j : Int) := hdep ⟨10, .data⟩ 135 (by simp) (by rfl) rfl (by simp)
                  have hg : AA.eval (.tmp 131) = .bool true := hdep ⟨6, .guard⟩ 131 (by simp) (by rfl) rfl (by simp)
                  refine ⟨wanted_of (g := 6) (b := true) (d := 131) rfl rfl hg, wp_value (v := .pointer (some ⟨b13, j, none⟩)) (w' := W) (by simp only [execOp, e133, e135]; simp [go_sem, tR, tj0]) ⟨_, rfl, rfl, Below.refl _ _⟩⟩
                · cases ho
                  have e136 : AA.eval (.tmp 136) = .pointer (some ⟨b13, j, none⟩) := hdep ⟨11, .data⟩ 136 (by simp) (by rfl) rfl (by simp)
                  have hg : AA.eval (.tmp 131) = .bool true := hdep ⟨6, .guard⟩ 131 (by simp) (by rfl) rfl (by simp)
                  refine ⟨wanted_of (g := 6) (b := true) (d := 131) rfl rfl hg, wp_value (v := .int .i64 (r0 : Int)) (w' := W) (by simp only [execOp, e136]; simp [go_sem, d0]) ⟨_, rfl, rfl, Below.refl _ _⟩⟩
                · cases ho
                  have e132 : AA.eval (.tmp 132) = hV n m lb rb pb hb' sb := hdep ⟨7, .data⟩ 132 (by simp) (by rfl) rfl (by simp)
                  have e137 : AA.eval (.tmp 137) = .int .i64 (r0 : Int) := hdep ⟨12, .data⟩ 137 (by simp) (by rfl) rfl (by simp)
                  have hg : AA.eval (.tmp 131) = .bool true := hdep ⟨6, .guard⟩ 131 (by simp) (by rfl) rfl (by simp)
                  refine ⟨wanted_of (g := 6) (b := true) (d := 131) rfl rfl hg, wp_callf (enters_of Try.func22 (by kernel_rfl) rfl) ?_⟩
                  rw [show (#[.tmp 132, .tmp 137] : Array Operand).map AA.eval = #[hV n m lb rb pb hb' sb, .int .i64 (r0 : Int)] by simp [e132, e137]]
                  refine (gleaves_ok HGT.out (HT8.out.below hbw) r0 HR0.out).mono fun e w' ⟨v, he, hna⟩ => ?_
                  obtain ⟨hM, hhd0⟩ := lv_head HGT.out.tv HR0.out
                  obtain ⟨ac, kc, bc, ev, hic, _⟩ := own_rowN hna.own rfl
                  obtain rfl := hic.adr hM
                  have q := hic.cell 0 hM
                  rw [nI_at hM, hhd0, HY0.out] at q
                  exact ⟨v, he, v, rfl, ⟨_, kc, bc, ev, hM, q⟩, hna.bel⟩
                · cases ho
                  have e138 : ∃ M cap b, AA.eval (.tmp 138) = .slice (some ⟨b, 0, none⟩) M cap ∧ 0 < M ∧ W.cell? ⟨b, 0, none⟩ = some (.int .i64 (y0 : Int)) := hdep ⟨13, .data⟩ 138 (by simp) (by rfl) rfl (by simp)
                  obtain ⟨M, cap, bc, ev, hM, hc⟩ := e138
                  have tM : (0 : Int) < (M : Int) := by omega
                  have hg : AA.eval (.tmp 131) = .bool true := hdep ⟨6, .guard⟩ 131 (by simp) (by rfl) rfl (by simp)
                  refine ⟨wanted_of (g := 6) (b := true) (d := 131) rfl rfl hg, wp_value (v := .pointer (some ⟨bc, 0, none⟩)) (w' := W) (by simp only [execOp, ev]; simp [go_sem, hM]) ⟨_, rfl, ⟨bc, rfl, hc⟩, Below.refl _ _⟩⟩
                · cases ho
                  have e139 : ∃ b, AA.eval (.tmp 139) = .pointer (some ⟨b, 0, none⟩) ∧ W.cell? ⟨b, 0, none⟩ = some (.int .i64 (y0 : Int)) := hdep ⟨14, .data⟩ 139 (by simp) (by rfl) rfl (by simp)
                  obtain ⟨bc, ev, hc⟩ := e139
                  have hg : AA.eval (.tmp 131) = .bool true := hdep ⟨6, .guard⟩ 131 (by simp) (by rfl) rfl (by simp)
                  refine ⟨wanted_of (g := 6) (b := true) (d := 131) rfl rfl hg, wp_value (v := .int .i64 (y0 : Int)) (w' := W) (by simp only [execOp, ev]; simp [go_sem, hc]) ⟨_, rfl, rfl, Below.refl _ _⟩⟩
                · cases ho
                  have hg : AA.eval (.tmp 131) = .bool true := hdep ⟨6, .guard⟩ 131 (by simp) (by rfl) rfl (by simp)
                  refine ⟨wanted_of (g := 6) (b := true) (d := 131) rfl rfl hg, wp_value (v := .slice (some ⟨b15, 0, none⟩) N k15) (w' := W) (by simp only [execOp, e15]; simp [go_sem, c0]) ⟨_, rfl, rfl, Below.refl _ _⟩⟩
                · cases ho
                  have e141 : AA.eval (.tmp 141) = .slice (some ⟨b15, 0, none⟩) N k15 := hdep ⟨16, .data⟩ 141 (by simp) (by rfl) rfl (by simp)
                  have hg : AA.eval (.tmp 131) = .bool true := hdep ⟨6, .guard⟩ 131 (by simp) (by rfl) rfl (by simp)
                  refine ⟨wanted_of (g := 6) (b := true) (d := 131) rfl rfl hg, wp_value (v := .pointer (some ⟨b15, 0, none⟩)) (w' := W) (by simp only [execOp, e141]; simp [go_sem, hN]) ⟨_, rfl, rfl, Below.refl _ _⟩⟩
                · cases ho
                  have e142 : AA.eval (.tmp 142) = .pointer (some ⟨b15, 0, none⟩) := hdep ⟨17, .data⟩ 142 (by simp) (by rfl) rfl (by simp)
                  have hg : AA.eval (.tmp 131) = .bool true := hdep ⟨6, .guard⟩ 131 (by simp) (by rfl) rfl (by simp)
                  refine ⟨wanted_of (g := 6) (b := true) (d := 131) rfl rfl hg, wp_value (v := .int .i64 (y1 : Int)) (w' := W) (by simp only [execOp, e142]; simp [go_sem, d1]) ⟨_, rfl, rfl, Below.refl _ _⟩⟩
                · cases ho
                  have e140 : AA.eval (.tmp 140) = .int .i64 (y0 : Int) := hdep ⟨15, .data⟩ 140 (by simp) (by rfl) rfl (by simp)
                  have e143 : AA.eval (.tmp 143) = .int .i64 (y1 : Int) := hdep ⟨18, .data⟩ 143 (by simp) (by rfl) rfl (by simp)
                  have hg : AA.eval (.tmp 131) = .bool true := hdep ⟨6, .guard⟩ 131 (by simp) (by rfl) rfl (by simp)
                  refine ⟨wanted_of (g := 6) (b := true) (d := 131) rfl rfl hg, wp_value (v := .bool false) (w' := W) (by simp only [execOp, e140, e143]; simp [go_sem, show y0 < y1 by omega]) ⟨_, rfl, rfl, Below.refl _ _⟩⟩
                · cases ho
                  have e131 : AA.eval (.tmp 131) = .bool true := hdep ⟨6, .data⟩ 131 (by simp) (by rfl) rfl (by simp)
                  have e144 : AA.eval (.tmp 144) = .bool false := hdep ⟨19, .data⟩ 144 (by simp) (by rfl) rfl (by simp)
                  have hg : AA.eval (.tmp 128) = .bool false := hdep ⟨3, .guard⟩ 128 (by simp) (by rfl) rfl (by simp)
                  refine ⟨wanted_of (g := 3) (b := false) (d := 128) rfl rfl hg, wp_value (v := .bool false) (w' := W) (by simp only [execOp, e131, e144]; simp [go_sem]) ⟨_, rfl, rfl, Below.refl _ _⟩⟩
                · cases ho
                  have e128 : AA.eval (.tmp 128) = .bool false := hdep ⟨3, .data⟩ 128 (by simp) (by rfl) rfl (by simp)
                  have e145 : AA.eval (.tmp 145) = .bool false := hdep ⟨20, .data⟩ 145 (by simp) (by rfl) rfl (by simp)
                  refine ⟨wanted_free rfl, wp_value (v := .bool false) (w' := W) (by simp only [execOp, e128, e145]; simp [go_sem]) ⟨_, rfl, rfl, Below.refl _ _⟩⟩
              case fin =>
                intro xs W hbw hall
                have hf : xs 21 = .bool false := hall 21 (by decide)
                have HBW := Lib.hid hbw
                clear hbw hall
                simp only [putAll, Nat.zero_add, Nat.reduceAdd, hf]
                generalize xs 0 = z0
                generalize xs 1 = z1
                generalize xs 2 = z2
                generalize xs 3 = z3
                generalize xs 4 = z4
                generalize xs 5 = z5
                generalize xs 6 = z6
                generalize xs 7 = z7
                generalize xs 8 = z8
                generalize xs 9 = z9
                generalize xs 10 = z10
                generalize xs 11 = z11
                generalize xs 12 = z12
                generalize xs 13 = z13
                generalize xs 14 = z14
                generalize xs 15 = z15
                generalize xs 16 = z16
                generalize xs 17 = z17
                generalize xs 18 = z18
                generalize xs 19 = z19
                generalize xs 20 = z20
                clear hf xs HC0 HC1 HI8 HX8 HT8 HL8 HY1 HY0 HR0 HR1 HR1E HV15
                go_wp2_with fail
                simp only [Act.put, List.setIfInBounds_toArray, List.set_cons_zero, List.set_cons_succ]
                go_meet
                exact ⟨rfl, HBW.out⟩
          case rest =>
            obtain ⟨rfl, hb9⟩ := hcut
            have HL9 := Lib.hid (HL8.out.below hb9)
            have HV9 := Lib.hid (HV15.out.below hb9)
            have HB9 := Lib.hid (bel_then HB8.out hb9)
            clear hb9 HX8 HT8 HI8 HL8 HV15 HB8 d2'
            go_wp2_with fail
            have hst := (all_step HGT.out.tv (i := i) (by rw [HRN.out]; exact hi)).1
            rw [HR1E.out] at hst
            with_reducible refine (merged_ok _ _ _ _ _ (allTo T n m ls (i + 1)) HL9.out HV9.out (MgAt.two (all_sorted _ _ _ _ _) (all_sorted _ _ _ _ _) (lv_sorted _ _ _ _) hst) (Nat.le_trans (allTo_le _ _ _ _ _) (by omega))).mono ?_
            rintro e w10 ⟨v12, rfl, hnr⟩
            have HLN := Lib.hid (LRow.of_own hnr.own (Nat.le_trans (allTo_le _ _ _ _ _) (by omega)))
            have HBN := Lib.hid (bel_then HB9.out hnr.bel)
            clear hnr hst
            go_wp2_with fail
            go_roundw
            case rel => exact ⟨i + 1, by omega, by go_num, HLN.out, HBN.out⟩
            case measure => simp [intOf]; omega
        · have ti : decide (i < R) = false := decide_eq_false hi
          obtain rfl : i = R := by omega
          clear hi hiR
          have hall := all_end HGT.out.tv
          rw [HRN.out] at hall
          have HLE := Lib.hid HLR.out
          rw [hall] at HLE
          obtain ⟨a12, k12, b12, o12, e12, _, _, hi12⟩ := HLE.out.ex
          rw [List.length_range] at e12 hi12
          subst e12
          have HI12 := Lib.hid hi12
          have HBE := Lib.hid (bel_then HB6.out HBQ.out)
          clear hall HLE HLR hi12 HXQ HTQ HIQ HBQ HIN HX6 HT6 HB6
          go_wp2_with fail
          go_loopw [16] (fun s wz => ∃ v : Nat, v ≤ n ∧ s = .int .i64 v ∧ Below wr.heap.size wr wz) (fun s _ => n - (intOf s).toNat)
          case atStart => exact ⟨0, Nat.zero_le _, rfl, Below.refl _ _⟩
          case round =>
            obtain ⟨v, hvn, rfl, hbz⟩ := hrel
            by_cases hv : v < n
            · have tv : decide (v < n) = true := decide_eq_true hv
              obtain rfl := HI12.out.adr (by omega)
              have d1 := (HI12.out.below hbz).cell v hv
              rw [nI_at (by rw [List.length_range]; exact hv), show (List.range n).getD v 0 = v by simp [List.getD_eq_getElem?_getD, hv]] at d1
              have HBZ := Lib.hid hbz
              clear hbz
              have t1 : (v : Int) < (n : Int) := by omega
              have t0 : (0 : Int) ≤ (v : Int) := by omega
              have t3 : ((v : Int) != (v : Int)) = false := by simp
              go_wp2_with fail
              go_roundw
              case rel => exact ⟨v + 1, by omega, by go_num, HBZ.out⟩
              case measure => simp [intOf]; omega
            · have tv : decide (v < n) = false := decide_eq_false hv
              have tn : ((n : Int) == (n : Int)) = true := by simp
              have HBZ := Lib.hid (bel_then HBE.out hbz)
              clear hbz
              go_wp2_with fail
              with_reducible refine (rworks_ok _).mono ?_
              rintro e w20 ⟨rfl, hb⟩
              have HF := Lib.hid (bel_then HBZ.out hb)
              clear hb
              go_wp2_with fail
              go_ret
              exact ⟨rfl, HF.out⟩

end Go.Proofs.Ytenhbfbfkcjimaa
