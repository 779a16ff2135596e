/- The statements' example of layer 20, and their comparison of lists. -/
import Derived.Test.YtenhbfbfkcjimaaDoorZMgJ
import Derived.Test.YtenhbfbfkcjimaaDoorZMgL
import Derived.Outline
namespace Go.Proofs.YtenhbfbfkcjimaaDoor
set_option linter.unusedVariables false
set_option linter.unusedSimpArgs false
open Go.RowKit

set_option maxHeartbeats 2000000 in
theorem msame_ok (w : World) (ao ao' : Option Addr) (len cap cap' b b' off off' : Nat) (z : List Int) (hu : InRow .i64 w ao len b off z) (hv : InRow .i64 w ao' len b' off' z) (hl : len ≤ 9223372036854775807) :
    Calls Tryd.prog 17 #[.slice ao len cap, .slice ao' len cap'] w (RetB (.bool true) w) := by
  have HC := Lib.hid hu
  have HD := Lib.hid hv
  clear hu hv
  have t0 : ((len : Int) != (len : Int)) = false := by simp
  go_enter Tryd.func17, Tryd.ntmps17
  go_wp2_with fail
  go_loopw [5] (fun s wr => ∃ k : Nat, k ≤ len ∧ s = .int .i64 k ∧ Mod (fun _ => False) w wr) (fun s _ => len - (intOf s).toNat)
  case atStart => exact ⟨0, Nat.zero_le _, rfl, Mod.refl _ _⟩
  case round =>
    obtain ⟨k, hk, rfl, hm⟩ := hrel
    have HM := Lib.hid hm
    by_cases hkn : k < len
    · obtain rfl := HC.out.adr (by omega)
      obtain rfl := HD.out.adr (by omega)
      have c0 := (HC.out.mod hm (fun _ h => h)).cell k hkn
      have d0 := (HD.out.mod hm (fun _ h => h)).cell k hkn
      generalize z.getD k 0 = x at c0 d0
      clear hm
      have t1 : (k : Int) < (len : Int) := by omega
      have t2 : (x != x) = false := by simp
      go_wp2_with fail
      go_quiet (fail)
      go_wp2_with fail
      go_roundw
      case rel => exact ⟨k + 1, by omega, by go_num, HM.out.drewN _⟩
      case measure => simp [intOf]; omega
    · obtain rfl : k = len := by omega
      clear hm
      go_wp2_with fail
      go_ret
      exact ⟨rfl, HM.out.below (Nat.le_refl _) (fun _ h => h.elim)⟩

theorem mrow_lit {w w' : World} {T : TypeId} {l : List Int} (h : w' = w.alloc (.cells (intV l).toArray T)) : InRow .i64 w' (some ⟨w.heap.size, 0, none⟩) l.length w.heap.size 0 l := by
  subst h
  have hb := Blk.new w T (intV l)
  exact ⟨rfl, fun _ => rfl, fun i hi => by rw [Nat.zero_add]; exact blkIV hb hi⟩

theorem ERow.of_blkM {w : World} {b : Nat} {T : TypeId} {l : List Ed} (h : Blk w b T (edCells l)) : ERow w (some ⟨b, 0, none⟩) l.length b 0 l := by
  refine ⟨rfl, fun _ => rfl, fun i hi => ?_⟩
  have key : ∀ j u, j < 3 → (EA l i).cells[j]? = some u → w.cell? ⟨b, i * 3 + j, none⟩ = some u := fun j u hj hu => h.cell (by rw [edCells_at l i j hi hj]; exact hu)
  rw [Nat.zero_add]
  exact ⟨key 0 _ (by omega) rfl, key 1 _ (by omega) rfl, key 2 _ (by omega) rfl⟩

def mxE : List Ed := [⟨0, 1, 4⟩, ⟨1, 2, 7⟩, ⟨0, 2, 9⟩, ⟨2, 3, 7⟩]
theorem mx_err : newErr 5 mxE = 0 := by decide +kernel
theorem mx_ok : GOk 5 mxE := by
  obtain ⟨k, hk, h⟩ := GOk.of_err mx_err
  obtain rfl : k = 5 := by omega
  exact h
theorem mx_ord : ordL mxE = [0, 1, 3, 2] := (ord_unique (L := [0, 1, 3, 2]) (by decide) (by decide)).symm
theorem mx_for : forL 5 mxE = [0, 1, 3] := by
  unfold forL
  show (foTo 5 mxE 4).out = _
  unfold foTo foTo foTo foTo foTo
  rw [mx_ord]
  decide +kernel
def mxT : Tr := ⟨5, [-1, -1, -1, -1, -1, 0, 5, 6], [-1, -1, -1, -1, -1, 1, 2, 3], [5, 5, 6, 7, -1, 6, 7, -1], [0, 0, 0, 0, 0, 4, 7, 7], [1, 1, 1, 1, 1, 2, 3, 4]⟩
theorem mx_bd : bdL 5 mxE = mxT := by
  unfold bdL
  rw [mx_for]
  kernel_rfl
theorem mx_FN : FN 5 mxE = 3 := by unfold FN; rw [mx_for]; rfl
theorem mx_fe (j : Nat) : fe 5 mxE j = [0, 1, 3].getD j 0 := by unfold fe; rw [mx_for]
theorem mx_c02 : mV 5 mxE 0 2 = some 6 := by
  unfold mV
  rw [if_pos (by decide), mx_bd, mx_FN]
  decide +kernel
theorem mx_c03 : mV 5 mxE 0 3 = some 7 := by
  unfold mV
  rw [if_pos (by decide), mx_bd, mx_FN]
  decide +kernel
theorem mx_mm : mmV 5 mxE 0 2 = some 7 := by
  unfold mmV
  rw [if_neg (by decide), mx_c02]
  show some (wI mxE (fe 5 mxE 1)) = _
  rw [mx_fe]; rfl
theorem mx_ed : edV 5 mxE 0 3 = some 3 := by
  unfold edV
  rw [mx_c03]
  show some (fe 5 mxE 2) = _
  rw [mx_fe]; rfl
theorem mx_cnt : cntT (bdL 5 mxE) 5 7 (5 + FN 5 mxE) = 6 := by rw [mx_bd, mx_FN]; decide +kernel
theorem mx_in (e : Nat) (h : e ∈ [0, 1, 3]) : InF 5 mxE e := by unfold InF; rw [mx_for]; exact h
theorem mx_path : PathTo 5 mxE 3 0 [0, 1, 3] := by
  have a2 : Arm mxE 3 2 3 := .inl ⟨rfl, rfl⟩
  have a1 : Arm mxE 1 1 2 := .inl ⟨rfl, rfl⟩
  have a0 : Arm mxE 0 0 1 := .inl ⟨rfl, rfl⟩
  have nt : ∀ e x, (uN mxE e == x || vN mxE e == x) = false → ¬ Tch mxE e x := fun e x h => by
    simp only [Bool.or_eq_false_iff, beq_eq_false_iff_ne] at h
    exact fun h' => h'.elim h.1 h.2
  refine .step (y := 1) (mx_in 0 (by decide)) a0 (by decide) ?_ (.step (y := 2) (mx_in 1 (by decide)) a1 (by decide) ?_ (.step (y := 3) (mx_in 3 (by decide)) a2 (by decide) (.refl _) .here))
  · exact Con.trans (a1.con (by decide) ⟨mx_in 1 (by decide), nt _ _ (by decide)⟩) (a2.con (by decide) ⟨mx_in 3 (by decide), nt _ _ (by decide)⟩)
  · exact a2.con (by decide) ⟨mx_in 3 (by decide), nt _ _ (by decide)⟩

set_option maxHeartbeats 8000000 in
set_option maxRecDepth 100000 in
theorem mworks_ok (w : World) (hT : Tab64 w) : Calls Tryd.prog 14 #[] w (RetB (.bool true) w) := by
  have HER : Hid (ERow (w.alloc (.cells #[.int .i64 0, .int .i64 1, .int .i64 4, .int .i64 1, .int .i64 2, .int .i64 7, .int .i64 0, .int .i64 2, .int .i64 9, .int .i64 2, .int .i64 3, .int .i64 7] 45)) (some ⟨w.heap.size, 0, none⟩) 4 w.heap.size 0 mxE) := ERow.of_blkM (l := mxE) (Blk.new w 45 (edCells mxE))
  have HB1 := Lib.hid (bel_alloc w (.cells #[.int .i64 0, .int .i64 1, .int .i64 4, .int .i64 1, .int .i64 2, .int .i64 7, .int .i64 0, .int .i64 2, .int .i64 9, .int .i64 2, .int .i64 3, .int .i64 7] 45))
  have HT := Lib.hid hT
  clear hT
  go_enter Tryd.func14, Tryd.ntmps14
  go_wp2_with fail
  with_reducible refine (mnew_ok _ 5 (some ⟨w.heap.size, 0, none⟩) 4 4 w.heap.size 0 mxE HER.out (by omega) (fun h => by cases h) (by omega)).mono ?_
  rintro e w2 ⟨_, hok, hb⟩
  obtain ⟨M, rfl, hM⟩ := hok mx_err
  have HB2 := Lib.hid (bel_then HB1.out hb)
  have HM2 : Hid (MObj w2 M 5 mxE) := hM
  have HT2 := Lib.hid (HT.out.below HB2.out)
  clear hb hM hok HER HB1
  go_wp2_with fail
  with_reducible refine (minimax_ok w2 M 5 mxE HM2.out mx_ok HT2.out 0 2).mono ?_
  rintro e w3 ⟨rfl, hb⟩
  have HB3 := Lib.hid (bel_then HB2.out hb)
  have HM3 := Lib.hid (HM2.out.below hb)
  have HT3 := Lib.hid (HT2.out.below hb)
  clear hb HB2 HM2 HT2
  rw [mx_mm]
  unfold intR
  simp only [Option.getD_some, Option.isSome_some]
  go_wp2_with fail
  with_reducible refine (edge_ok w3 M 5 mxE HM3.out mx_ok HT3.out 0 3).mono ?_
  rintro e w4 ⟨rfl, hb⟩
  have HB4 := Lib.hid (bel_then HB3.out hb)
  have HM4 := Lib.hid (HM3.out.below hb)
  have HT4 := Lib.hid (HT3.out.below hb)
  clear hb HB3 HM3 HT3
  rw [mx_ed]
  unfold comR
  simp only [Option.getD_some, Option.isSome_some]
  go_wp2_with fail
  with_reducible refine (path_ok w4 M 5 mxE HM4.out mx_ok HT4.out 0 3).mono ?_
  rintro e w5 ⟨_, hyes, hb⟩
  obtain ⟨p, val, hp, rfl, ho, _⟩ := hyes 7 mx_c03
  obtain rfl := hp.unique mx_ok mx_path
  obtain ⟨ao, cap, b, rfl, hr, _⟩ := own_rowN ho rfl
  have HB5 := Lib.hid (bel_then HB4.out hb)
  have HM5 := Lib.hid (HM4.out.below hb)
  have HT5 := Lib.hid (HT4.out.below hb)
  have HL5 : Hid (InRow .i64 w5 ao 3 b 0 [0, 1, 3]) := hr
  clear hb HB4 HM4 HT4 ho hp hr hyes
  rw [show ([0, 1, 3] : List Nat).length = 3 from rfl]
  have HR : Hid (InRow .i64 (w5.alloc (.cells #[.int .i64 0, .int .i64 1, .int .i64 3] 3)) (some ⟨w5.heap.size, 0, none⟩) 3 w5.heap.size 0 [0, 1, 3]) := mrow_lit (l := [0, 1, 3]) rfl
  have HBL := Lib.hid (bel_alloc w5 (.cells #[.int .i64 0, .int .i64 1, .int .i64 3] 3))
  go_wp2_with fail
  with_reducible refine (msame_ok _ ao (some ⟨w5.heap.size, 0, none⟩) 3 cap 3 b w5.heap.size 0 0 [0, 1, 3] (HL5.out.below HBL.out) HR.out (by decide)).mono ?_
  rintro e w6 ⟨rfl, hb⟩
  have HB6 := Lib.hid (bel_then HB5.out (bel_then HBL.out hb))
  have HM6 := Lib.hid (HM5.out.below (bel_then HBL.out hb))
  clear hb HR HBL HB5 HM5 HT5 HL5
  go_wp2_with fail
  with_reducible refine (count_ok w6 M 5 mxE HM6.out mx_ok 7).mono ?_
  rintro e w7 ⟨rfl, hb⟩
  have HB7 := Lib.hid (bel_then HB6.out hb)
  clear hb HB6 HM6
  rw [mx_cnt]
  go_wp2_with fail
  go_ret
  exact ⟨rfl, HB7.out⟩

end Go.Proofs.YtenhbfbfkcjimaaDoor
