/- dsu: New, Union. -/
import Derived.Test.YthacjealoomioaaZRcJ
namespace Go.Proofs.Ythacjealoomioaa
set_option linter.unusedVariables false
set_option linter.unusedSimpArgs false
open Go.RowKit

theorem run_minI (x y : Int) (w : World) : (Builtin.min_ #[3, 3] 3 #[Value.int IntKind.i64 x, .int .i64 y]).run Try.prog w = .ok (.int .i64 (min x y)) w := by
  by_cases h : x < y
  · have h2 : ¬ y < x := by omega
    rw [Int.min_eq_left (by omega)]
    simp [go_sem, h, h2]
  · rw [Int.min_eq_right (by omega)]
    by_cases h3 : y < x
    · simp [go_sem, h, h3]
    · have : x = y := by omega
      subst this
      simp [go_sem]

structure NsAt (w : World) (D : DB) (n : Nat) (wx : World) : Prop where
  sb : Blk wx D.s 73 [.pointer none, .slice (some ⟨D.ub, 0, none⟩) n n, .slice (some ⟨D.lb, 0, none⟩) n n, .slice (some ⟨D.zb, 0, none⟩) n n, .int .i64 n]
  ubk : Blk wx D.ub 3 (natV (List.replicate n 0))
  lbk : Blk wx D.lb 3 (natV (List.replicate n 0))
  zbk : Blk wx D.zb 3 (natV (List.replicate n 0))
  bel : Below w.heap.size w wx
  new : ∀ x, D.mem x → w.heap.size ≤ x
  ne : D.ub ≠ D.s ∧ D.lb ≠ D.s ∧ D.zb ≠ D.s ∧ D.ub ≠ D.lb ∧ D.ub ≠ D.zb ∧ D.lb ≠ D.zb

theorem nsAt {w : World} {n x y z : Nat} (hx : x = w.heap.size ∨ x = w.heap.size + 1 ∨ x = w.heap.size + 1 + 1) (hy : y = w.heap.size ∨ y = w.heap.size + 1 ∨ y = w.heap.size + 1 + 1) (hz : z = w.heap.size ∨ z = w.heap.size + 1 ∨ z = w.heap.size + 1 + 1) (h1 : x ≠ y) (h2 : x ≠ z) (h3 : y ≠ z) :
    NsAt w ⟨w.heap.size + 1 + 1 + 1, x, y, z⟩ n ((((w.alloc (.cells (List.replicate n (Value.int .i64 0)).toArray 3)).alloc (.cells (List.replicate n (Value.int .i64 0)).toArray 3)).alloc (.cells (List.replicate n (Value.int .i64 0)).toArray 3)).alloc
      (.cells #[.pointer none, .slice (some ⟨x, 0, none⟩) n n, .slice (some ⟨y, 0, none⟩) n n, .slice (some ⟨z, 0, none⟩) n n, .int .i64 n] 73)).drew := by
  have key : ∀ q, (q = w.heap.size ∨ q = w.heap.size + 1 ∨ q = w.heap.size + 1 + 1) → ∀ o, Blk ((((w.alloc (.cells (List.replicate n (Value.int .i64 0)).toArray 3)).alloc (.cells (List.replicate n (Value.int .i64 0)).toArray 3)).alloc (.cells (List.replicate n (Value.int .i64 0)).toArray 3)).alloc o) q 3 (natV (List.replicate n 0)) := by
    intro q hq o
    rw [natV_zero]
    rcases hq with rfl | rfl | rfl
    · exact (((Blk.new w 3 _).alloc _).alloc _).alloc _
    · exact ((Blk.new' _ 3 _ (by simp)).alloc _).alloc _
    · exact (Blk.new' _ 3 _ (by simp)).alloc _
  refine ⟨Blk.new' _ _ [_, _, _, _, _] (by simp), key x hx _, key y hy _, key z hz _, (((((Below.refl _ _).alloc (Nat.le_refl _) _).alloc (by simp) _).alloc (by simp; omega) _).alloc (by simp; omega) _).drew, fun q hq => ?_, ?_⟩
  · unfold DB.mem at hq
    simp only at hq
    omega
  · simp only
    omega

/-- The first i are done. -/
def upI (n i : Nat) : List Nat := List.range i ++ List.replicate (n - i) 0

theorem upI_zero (n : Nat) : upI n 0 = List.replicate n 0 := by simp [upI]
theorem upI_end (n : Nat) : upI n n = List.range n := by simp [upI]
theorem upI_length {n i : Nat} (h : i ≤ n) : (upI n i).length = n := by simp [upI]; omega
theorem upI_step {n i : Nat} (h : i < n) : (upI n i).set i i = upI n (i + 1) := by
  unfold upI
  rw [List.set_append_right _ _ (by simp), show i - (List.range i).length = 0 by simp, show n - i = (n - (i + 1)) + 1 by omega, List.replicate_succ, List.set_cons_zero, List.range_succ, List.append_assoc]
  rfl
def onI (n i : Nat) : List Int := List.replicate i 1 ++ List.replicate (n - i) 0
theorem onI_zero (n : Nat) : onI n 0 = List.replicate n 0 := by simp [onI]
theorem onI_length {n i : Nat} (h : i ≤ n) : (onI n i).length = n := by simp [onI]; omega
theorem onI_step {n i : Nat} (h : i < n) : (onI n i).set i 1 = onI n (i + 1) := by
  unfold onI
  rw [List.set_append_right _ _ (by simp), List.length_replicate, Nat.sub_self, show n - i = (n - (i + 1)) + 1 by omega, List.replicate_succ, List.set_cons_zero, List.replicate_succ', List.append_assoc]
  rfl

structure DNPost (w : World) (n : Nat) (e : Ending) (w' : World) : Prop where
  out : ∃ D : DB, e = .returned (.tuple #[.pointer (some ⟨D.s, 0, none⟩), .int .i64 0]) ∧ DObj w' D n (List.range n) ∧ ∀ x, D.mem x → w.heap.size ≤ x
  bel : Below w.heap.size w w'

set_option maxHeartbeats 4000000 in
set_option maxRecDepth 100000 in
theorem dnew_ok (w : World) (n : Nat) (hn : n ≤ 65536) : Calls Try.prog 9 #[.int .i64 n] w (DNPost w n) := by
  have hmk : ∀ w, (Instr.makeSlice 28 (.int .i64 (n : Int)) (.int .i64 (n : Int))).run Try.prog w = .ok (.slice (some ⟨w.heap.size, 0, none⟩) n n) (w.alloc (.cells (List.replicate n (Value.int .i64 0)).toArray 3)) := fun w =>
    run_makeE 28 3 (.int .i64 0) 8 Try.underlying28 Try.infoInt rfl .i64 .i64 n (by omega) (by unfold maxLen; omega) w
  have t1 : decide ((n : Int) < 0) = false := by simp
  have t2 : decide (65536 < n) = false := by simp; omega
  have t2' : decide ((65536 : Int) < (n : Int)) = false := by simp; omega
  go_enter Try.func9, Try.ntmps9
  go_wp2_with fail
  go_cut [4] (fun s4 wx => ∃ D : DB, s4 = .pointer (some ⟨D.s, 0, none⟩) ∧ NsAt w D n wx)
  case first =>
    go_region
    all_goals go_wp2_with fail
    all_goals go_meet
    all_goals exact ⟨⟨_, _, _, _⟩, rfl, nsAt (by simp) (by simp) (by simp) (by omega) (by omega) (by omega)⟩
  case rest =>
    obtain ⟨D, rfl, hns⟩ := hcut
    clear hmk t1 t2 t2'
    have HNS := Lib.hid hns
    have g0 := hns.sb.cell (i := 0) rfl
    have gf := hns.sb.free 0
    clear hns
    go_wp2_with fail
    have hw1 : Mod (fun x => x = D.s) wc (wc.setCell ⟨D.s, 0, none⟩ (.pointer (some ⟨D.s, 0, none⟩))) := (Mod.refl (fun x => x = D.s) wc).setCell ⟨D.s, 0, none⟩ (fun _ => rfl) _
    obtain ⟨e1, e2, e3, e4, e5, e6⟩ := HNS.out.ne
    have HR : Hid (DRep (wc.setCell ⟨D.s, 0, none⟩ (.pointer (some ⟨D.s, 0, none⟩))) D n (upI n 0) (upI n 0) (onI n 0) n) := by
      have := HNS.out.sb.set 0 (.pointer (some ⟨D.s, 0, none⟩))
      refine ⟨this, by rw [upI_zero]; exact HNS.out.ubk.mod hw1 e1, by rw [upI_zero]; exact HNS.out.lbk.mod hw1 e2, ?_, onI_length (Nat.zero_le _), e1, e2, e3, e4, e5, e6⟩
      have h2 := HNS.out.zbk.mod hw1 e3
      rw [natV_zero] at h2
      rw [onI_zero, List.map_replicate]
      exact h2
    have HB1 := Lib.hid (bel_mod HNS.out.bel hw1 (fun x e => by rw [e]; exact HNS.out.new _ (.inl rfl)))
    have HNW := Lib.hid HNS.out.new
    clear hw1 g0 gf HNS
    generalize wc.setCell ⟨D.s, 0, none⟩ (.pointer (some ⟨D.s, 0, none⟩)) = W1 at *
    go_loopw [26] (fun s wr => ∃ i : Nat, i ≤ n ∧ s = .int .i64 i ∧ DRep wr D n (upI n i) (upI n i) (onI n i) n ∧ Mod D.mem W1 wr) (fun s _ => n - (intOf s).toNat)
    case atStart => exact ⟨0, Nat.zero_le _, rfl, HR.out, Mod.refl _ _⟩
    case round =>
      obtain ⟨i, hi, rfl, hr, hm⟩ := hrel
      clear HR
      have HR := Lib.hid hr
      have HM := Lib.hid hm
      have c1 := hr.sb.cell (i := 1) rfl
      have c2 := hr.sb.cell (i := 2) rfl
      have c3 := hr.sb.cell (i := 3) rfl
      clear hr hm
      by_cases hin : i < n
      · have u1 := blkN HR.out.ubk (i := i) (by rw [upI_length (by omega)]; exact hin)
        have u2 := blkN HR.out.lbk (i := i) (by rw [upI_length (by omega)]; exact hin)
        have u3 := blkI HR.out.zbk (i := i) (by rw [onI_length (by omega)]; exact hin)
        have f1 := HR.out.ubk.free i
        have f2 := HR.out.lbk.free i
        have f3 := HR.out.zbk.free i
        generalize (upI n i).getD i 0 = x1 at *
        generalize (onI n i).getD i 0 = x3 at *
        have t1 : (i : Int) < (n : Int) := by omega
        have t0 : (0 : Int) ≤ (i : Int) := by omega
        go_wp2_with fail
        have e1' : D.s ≠ D.ub := fun e => e1 e.symm
        have e2' : D.s ≠ D.lb := fun e => e2 e.symm
        have e3' : D.s ≠ D.zb := fun e => e3 e.symm
        have e4' : D.lb ≠ D.ub := fun e => e4 e.symm
        have e5' : D.zb ≠ D.ub := fun e => e5 e.symm
        have e6' : D.zb ≠ D.lb := fun e => e6 e.symm
        go_region
        go_wp2_with fail
        have HR3 : Hid (DRep (((wr.setCell ⟨D.ub, i, none⟩ (.int .i64 i)).setCell ⟨D.lb, i, none⟩ (.int .i64 i)).setCell ⟨D.zb, i, none⟩ (.int .i64 1)).drew D n (upI n (i + 1)) (upI n (i + 1)) (onI n (i + 1)) n) := by
          have b1 := blkN_set HR.out.ubk i i
          have b2 := blkN_set (HR.out.lbk.other ⟨D.ub, i, none⟩ (.int .i64 i) (fun e => e4 e.symm)) i i
          have b3 := blkI_set ((HR.out.zbk.other ⟨D.ub, i, none⟩ (.int .i64 i) (fun e => e5 e.symm)).other ⟨D.lb, i, none⟩ (.int .i64 i) (fun e => e6 e.symm)) i 1
          rw [upI_step hin] at b1 b2
          rw [onI_step hin] at b3
          exact DRep.drew ⟨((HR.out.sb.other _ _ (fun e => e1 e.symm)).other _ _ (fun e => e2 e.symm)).other _ _ (fun e => e3 e.symm), (b1.other _ _ e4).other _ _ e5, b2.other _ _ e6, b3, onI_length (by omega), e1, e2, e3, e4, e5, e6⟩ rfl
        go_roundw
        case rel => exact ⟨i + 1, by omega, by go_num, HR3.out, (((HM.out.setCell _ (fun _ => .inr (.inl rfl)) _).setCell _ (fun _ => .inr (.inr (.inl rfl))) _).setCell _ (fun _ => .inr (.inr (.inr rfl))) _).drew⟩
        case measure => simp [intOf]; omega
      · have hie : i = n := by omega
        have hie2 : ¬ (i : Int) < (n : Int) := by omega
        have HF : Hid (DObj wr D n (List.range n)) := by
          have hr := HR.out
          rw [hie, upI_end] at hr
          refine ⟨List.length_range, hn, _, _, _, _, _, _, hr, DInv.start n, List.length_range, fun r hr' e => ?_⟩
          rfl
        have HBF := Lib.hid (bel_mod HB1.out HM.out (fun x e => HNW.out x e))
        clear hie
        go_wp2_with fail
        go_ret2
        exact ⟨⟨D, rfl, HF.out, HNW.out⟩, HBF.out⟩

end Go.Proofs.Ythacjealoomioaa
