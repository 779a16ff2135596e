/- RcH, RcI, RcQ. -/
import Derived.Test.YthacjealoomioaaGreatDoorZGd
import Derived.Test.YthacjealoomioaaGreatDoorZGf
import Derived.BigRegion
import Derived.Deep.DeepCutAuto
import Derived.Sort.Grow
/- graph.build. -/
namespace Go.Proofs.YthacjealoomioaaGreatDoor
set_option linter.unusedVariables false
set_option linter.unusedSimpArgs false
open Go.RowKit


structure BuAt (w : World) (g sb lb n m : Nat) (ev : Value) (wx : World) : Prop where
  gb : Blk wx g 105 [.pointer none, ev, .slice (some ⟨sb, 0, none⟩) (n + 1) (n + 1), .slice (some ⟨lb, 0, none⟩) (2 * m) (2 * m)]
  stb : Blk wx sb 3 (natV (List.replicate (n + 1) 0))
  lib : Blk wx lb 3 (natV (List.replicate (2 * m) 0))
  bel : Below w.heap.size w wx
  new : w.heap.size ≤ g ∧ w.heap.size ≤ sb ∧ w.heap.size ≤ lb
  ne : g ≠ sb ∧ g ≠ lb ∧ sb ≠ lb

structure BuPost (w : World) (n m : Nat) (ev : Value) (e : Ending) (w' : World) : Prop where
  out : ∃ g sb lb, e = .returned (.pointer (some ⟨g, 0, none⟩)) ∧ Blk w' g 105 [.pointer (some ⟨g, 0, none⟩), ev, .slice (some ⟨sb, 0, none⟩) (n + 1) (n + 1), .slice (some ⟨lb, 0, none⟩) (2 * m) (2 * m)]
  bel : Below w.heap.size w w'

theorem buA {w : World} {n m : Nat} {ev : Value} (h : True) : BuAt w (w.heap.size + 1 + 1) w.heap.size (w.heap.size + 1) n m ev
    (((w.alloc (.cells (List.replicate (n + 1) (Value.int .i64 0)).toArray 3)).alloc (.cells (List.replicate (2 * m) (Value.int .i64 0)).toArray 3)).alloc
      (.cells #[.pointer none, ev, .slice (some ⟨w.heap.size, 0, none⟩) (n + 1) (n + 1), .slice (some ⟨w.heap.size + 1, 0, none⟩) (2 * m) (2 * m)] 105)).drew := by
  refine ⟨Blk.new' _ _ [_, _, _, _] (by simp), ?_, ?_, ?_, by omega, by omega⟩
  · rw [natV_zero]; exact ((Blk.new w 3 _).alloc _).alloc _
  · rw [natV_zero]; exact (Blk.new' _ 3 _ (by simp)).alloc _
  · exact ((((Below.refl _ _).alloc (Nat.le_refl _) _).alloc (by simp) _).alloc (by simp; omega) _).drew

theorem buB {w : World} {n m : Nat} {ev : Value} (h : True) : BuAt w (w.heap.size + 1 + 1) (w.heap.size + 1) w.heap.size n m ev
    (((w.alloc (.cells (List.replicate (2 * m) (Value.int .i64 0)).toArray 3)).alloc (.cells (List.replicate (n + 1) (Value.int .i64 0)).toArray 3)).alloc
      (.cells #[.pointer none, ev, .slice (some ⟨w.heap.size + 1, 0, none⟩) (n + 1) (n + 1), .slice (some ⟨w.heap.size, 0, none⟩) (2 * m) (2 * m)] 105)).drew := by
  refine ⟨Blk.new' _ _ [_, _, _, _] (by simp), ?_, ?_, ?_, by omega, by omega⟩
  · rw [natV_zero]; exact (Blk.new' _ 3 _ (by simp)).alloc _
  · rw [natV_zero]; exact ((Blk.new w 3 _).alloc _).alloc _
  · exact ((((Below.refl _ _).alloc (Nat.le_refl _) _).alloc (by simp) _).alloc (by simp; omega) _).drew

set_option maxHeartbeats 2000000 in
set_option maxRecDepth 100000 in
theorem build_ok (w : World) (n : Nat) (ao : Option Addr) (m cap b off : Nat) (l : List Ed) (he : ERow w ao m b off l) (hg : GOk n l) :
    Calls Tryz.prog 65 #[.int .i64 n, .slice ao m cap] w (BuPost w n m (.slice ao m cap)) := by
  have HE := Lib.hid he
  have HG := Lib.hid hg
  have hn := hg.hn
  have hm : m ≤ 16384 := by rw [← he.size]; exact hg.hl
  have hmk1 : ∀ w, (Instr.makeSlice 24 (.int .i64 ((n : Int) + 1)) (.int .i64 ((n : Int) + 1))).run Tryz.prog w = .ok (.slice (some ⟨w.heap.size, 0, none⟩) (n + 1) (n + 1)) (w.alloc (.cells (List.replicate (n + 1) (Value.int .i64 0)).toArray 3)) := fun w =>
    run_makeE 24 3 (.int .i64 0) 8 Tryz.underlying24 Tryz.infoInt rfl .i64 .i64 (n + 1) (by omega) (by unfold maxLen; omega) w
  have hmk2 : ∀ w, (Instr.makeSlice 24 (.int .i64 (2 * (m : Int))) (.int .i64 (2 * (m : Int)))).run Tryz.prog w = .ok (.slice (some ⟨w.heap.size, 0, none⟩) (2 * m) (2 * m)) (w.alloc (.cells (List.replicate (2 * m) (Value.int .i64 0)).toArray 3)) := fun w =>
    run_makeE 24 3 (.int .i64 0) 8 Tryz.underlying24 Tryz.infoInt rfl .i64 .i64 (2 * m) (by omega) (by unfold maxLen; omega) w
  clear he hg
  go_enter Tryz.func65, Tryz.ntmps65
  go_wp2_with fail
  go_cut [5] (fun s5 wx => ∃ g sb lb, s5 = .pointer (some ⟨g, 0, none⟩) ∧ BuAt w g sb lb n m (.slice ao m cap) wx)
  case first =>
    go_region
    all_goals go_wp2_with fail
    all_goals go_meet
    all_goals first
      | exact ⟨_, _, _, rfl, buA trivial⟩
      | exact ⟨_, _, _, rfl, buB trivial⟩
  case rest =>
    obtain ⟨g, sb, lb, rfl, hbu⟩ := hcut
    clear hmk1 hmk2
    have HBU := Lib.hid hbu
    have g0 := hbu.gb.cell (i := 0) rfl
    have gf := hbu.gb.free 0
    clear hbu
    go_wp2_with fail
    have hw1 : Mod (fun x => x = g) wc (wc.setCell ⟨g, 0, none⟩ (.pointer (some ⟨g, 0, none⟩))) := (Mod.refl (fun x => x = g) wc).setCell ⟨g, 0, none⟩ (fun _ => rfl) _
    have HG1 := Lib.hid (HBU.out.gb.set 0 (.pointer (some ⟨g, 0, none⟩)))
    have HS1 := Lib.hid (HBU.out.stb.mod hw1 (fun e => HBU.out.ne.1 e.symm))
    have HL1 := Lib.hid (HBU.out.lib.mod hw1 (fun e => HBU.out.ne.2.1 e.symm))
    have HB1 := Lib.hid (bel_mod HBU.out.bel hw1 (fun x e => by rw [e]; exact HBU.out.new.1))
    have hne1 := HBU.out.ne.1
    have hne2 := HBU.out.ne.2.1
    have hne3 := HBU.out.ne.2.2
    have hnw1 := HBU.out.new.1
    have hnw2 := HBU.out.new.2.1
    have hnw3 := HBU.out.new.2.2
    simp only [List.set_cons_zero] at HG1
    clear hw1 g0 gf HBU
    generalize wc.setCell ⟨g, 0, none⟩ (.pointer (some ⟨g, 0, none⟩)) = W1 at *
    obtain ⟨m2, HM2⟩ : ∃ m2, Hid (2 * m = m2) := ⟨_, rfl⟩
    obtain ⟨n1, HN1⟩ : ∃ n1, Hid (n + 1 = n1) := ⟨_, rfl⟩
    have hm2 : m2 ≤ 32768 := by have := HM2.out; omega
    have hn1 : n < n1 := by have := HN1.out; omega
    have hn1' : n1 ≤ 4097 := by have := HN1.out; omega
    rw [HM2.out, HN1.out] at HG1
    rw [HM2.out] at HL1
    go_loopw [30] (fun s wr => ∃ t : Nat, t ≤ m ∧ s = .int .i64 t ∧ Blk wr sb 3 (natV (cntL n (endsTo l t))) ∧ Mod (fun x => x = sb) W1 wr) (fun s _ => m - (intOf s).toNat)
    case atStart =>
      refine ⟨0, Nat.zero_le _, rfl, ?_, Mod.refl _ _⟩
      have e0 : endsTo l 0 = [] := rfl
      rw [e0, cntL_nil]
      exact HS1.out
    case round =>
      obtain ⟨t, ht, rfl, hs, hmd⟩ := hrel
      have HS := Lib.hid hs
      have HMD := Lib.hid hmd
      clear hs hmd HS1
      by_cases htm : t < m
      · have htl : t < l.length := by rw [HE.out.size]; exact htm
        have hbw : Below w.heap.size w wr := bel_mod HB1.out HMD.out (fun x e => by rw [e]; exact hnw2)
        obtain ⟨c0, c1, c2⟩ := (HE.out.below hbw).cell t htm
        obtain rfl := HE.out.adr (by omega)
        obtain ⟨hu, hv, huv, eu, ev⟩ := HG.out.uv htl
        rw [eu] at c0
        rw [ev] at c1
        have HNX := Lib.hid (endsTo_succ l t)
        generalize wI l t = ww at *
        generalize (EA l t).W = ww at *
        generalize uN l t = u at *
        generalize vN l t = v at *
        have hg2 := HG1.out.mod HMD.out (fun e => hne1 e)
        have HG2 := Lib.hid hg2
        have d2 := hg2.cell (i := 2) rfl
        have cu := blkN HS.out (i := u + 1) (by rw [cntL_length]; omega)
        rw [cntL_at hu] at cu
        have fu := HS.out.free (u + 1)
        have hlu := List.count_le_length (a := u) (l := endsTo l t)
        rw [endsTo_length] at hlu
        have hbl : b < wr.heap.size := World.block_lt_of_cell? wr _ c0
        have hsl : sb < wr.heap.size := HS.out.lt
        have hgl : g < wr.heap.size := hg2.lt
        clear hg2
        go_wp2_with fail
        generalize hW : World.alloc wr _ = W
        have X0 : W.cell? ⟨wr.heap.size, 0, none⟩ = some (.int .i64 u) := by rw [← hW]; exact (Blk.new wr 82 [.int .i64 u, .int .i64 v, .int .i64 ww]).cell rfl
        have X1 : W.cell? ⟨wr.heap.size, 1, none⟩ = some (.int .i64 v) := by rw [← hW]; exact (Blk.new wr 82 [.int .i64 u, .int .i64 v, .int .i64 ww]).cell rfl
        have hbW : Below wr.heap.size wr W := by rw [← hW]; exact (Below.refl _ _).alloc (Nat.le_refl _) _
        have D2 := (hbW.cell (p := ⟨g, 2, none⟩) hgl).trans d2
        have CU := (hbW.cell (p := ⟨sb, u + 1, none⟩) hsl).trans cu
        have FU := (hbW.frozen (p := ⟨sb, u + 1, none⟩) hsl).trans fu
        have HSW := Lib.hid (HS.out.below hbW hsl)
        have HMW := Lib.hid (HMD.out.trans (Mod.of_below (F := fun _ => False) hbW) (fun _ _ h => h.elim))
        have HGW := Lib.hid (HG2.out.below hbW hgl)
        have hsb' : sb ≠ wr.heap.size := by omega
        have hwb' : sb < wr.heap.size := hsl
        obtain ⟨eb, HEB⟩ : ∃ eb, Hid (wr.heap.size = eb) := ⟨_, rfl⟩
        rw [HEB.out] at X0 X1 hsb' hwb' ⊢
        clear hW hbW c0 c1 c2 d2 cu fu HS HMD HG2 hbw hbl hsl hgl
        have t1 : (u : Int) + 1 < (n1 : Int) := by omega
        have t2 : (v : Int) + 1 < (n1 : Int) := by omega
        have hsn := Lib.hid (cntL_snoc (n := n) (E := endsTo l t) hu)
        generalize List.count u (endsTo l t) = cu' at *
        have wu : IntKind.i64.wrap ((u : Int) + 1) = (u : Int) + 1 := IntWalk.i64_in _ (by omega)
        have wv : IntKind.i64.wrap ((v : Int) + 1) = (v : Int) + 1 := IntWalk.i64_in _ (by omega)
        have wc' : IntKind.i64.wrap ((cu' : Int) + 1) = (cu' : Int) + 1 := IntWalk.i64_in _ (by omega)
        have zu : (0 : Int) ≤ (u : Int) + 1 := by omega
        have zv : (0 : Int) ≤ (v : Int) + 1 := by omega
        have nu : ((u : Int) + 1).toNat = u + 1 := by omega
        have nv : ((v : Int) + 1).toNat = v + 1 := by omega
        refine region_tailD 11 (by kernel_rfl) (by kernel_rfl) ?_
        intro w2 hw2
        have x0 := hw2.cell X0
        have x1 := hw2.cell X1
        have d2 := hw2.cell D2
        have cu := hw2.cell CU
        have fu := hw2.frozen FU
        have HS2 := Lib.hid (hw2.blk HSW.out)
        have HM2' := Lib.hid (hw2.mod HMW.out)
        have HG2 := Lib.hid (hw2.blk HGW.out)
        clear hw2 X0 X1 D2 CU FU HSW HMW HGW
        simp only [List.take_succ_cons, List.take_zero, List.drop_succ_cons, List.drop_zero]
        repeat still_step
        refine wpStill_nil ?_
        go_wp2_with fail
        have hms : Mod (fun x => x = sb) w2 (w2.setCell ⟨sb, u + 1, none⟩ (.int .i64 ((cu' : Int) + 1))) := (Mod.refl (fun x => x = sb) w2).setCell ⟨sb, u + 1, none⟩ (fun _ => rfl) _
        have hs3 := blkN_set HS2.out (u + 1) (cu' + 1)
        rw [hsn.out] at hs3
        have X1 := (hms.cell (p := ⟨eb, 1, none⟩) (World.block_lt_of_cell? w2 _ x1) (fun e => hsb' e.symm)).trans x1
        have D2 := (hms.cell (p := ⟨g, 2, none⟩) (World.block_lt_of_cell? w2 _ d2) hne1).trans d2
        have HM3 := Lib.hid (HM2'.out.trans hms (fun _ _ h => h))
        have HS3 : Hid (Blk (w2.setCell ⟨sb, u + 1, none⟩ (.int .i64 ((cu' : Int) + 1))) sb 3 (natV (cntL n (endsTo l t ++ [u])))) := hs3
        clear hs3 hms x0 x1 d2 cu fu HS2 HM2' HG2
        generalize w2.setCell ⟨sb, u + 1, none⟩ (.int .i64 ((cu' : Int) + 1)) = w3 at *
        have CV := blkN HS3.out (i := v + 1) (by rw [cntL_length]; omega)
        rw [cntL_at hv] at CV
        have FV := HS3.out.free (v + 1)
        have hlv := List.count_le_length (a := v) (l := endsTo l t ++ [u])
        rw [List.length_append, endsTo_length] at hlv
        simp only [List.length_singleton] at hlv
        have hsn2 := Lib.hid (cntL_snoc (n := n) (E := endsTo l t ++ [u]) hv)
        generalize List.count v (endsTo l t ++ [u]) = cv' at *
        have wd : IntKind.i64.wrap ((cv' : Int) + 1) = (cv' : Int) + 1 := IntWalk.i64_in _ (by omega)
        refine region_tailD 11 (by kernel_rfl) (by kernel_rfl) ?_
        intro w4 hw4
        have x1 := hw4.cell X1
        have d2 := hw4.cell D2
        have cv := hw4.cell CV
        have fv := hw4.frozen FV
        have HS4 := Lib.hid (hw4.blk HS3.out)
        have HM4 := Lib.hid (hw4.mod HM3.out)
        clear hw4 X1 D2 CV FV HS3 HM3
        simp only [List.take_succ_cons, List.take_zero, List.drop_succ_cons, List.drop_zero]
        repeat still_step
        refine wpStill_nil ?_
        go_wp2_with fail
        have HS5 : Hid (Blk (w4.setCell ⟨sb, v + 1, none⟩ (.int .i64 ((cv' : Int) + 1))) sb 3 (natV (cntL n (endsTo l (t + 1))))) := by
          have := blkN_set HS4.out (v + 1) (cv' + 1)
          rw [hsn2.out, ← HNX.out] at this
          exact this
        clear wu wv wc' wd zu zv nu nv
        go_roundw
        case rel => exact ⟨t + 1, by omega, by go_num, HS5.out, HM4.out.setCell _ (fun _ => rfl) _⟩
        case measure => simp [intOf]; omega
      · have htm2 : t = m := by omega
        have htm3 : ¬ (t : Int) < (m : Int) := by omega
        have HS2 : Hid (Blk wr sb 3 (natV (sumL n (endsTo l m) 0))) := by show Blk _ _ _ _; rw [sumL_zero, ← htm2]; exact HS.out
        have HEL := Lib.hid (endsTo_length l m)
        have HESP : Hid (∀ i, i < m → ∃ G, endsTo l m = endsTo l i ++ uN l i :: vN l i :: G) := fun i hi => ends_split hi
        generalize endsTo l m = E at *
        clear HS htm2
        go_wp2_with fail
        go_loopw [58] (fun s wx => ∃ i : Nat, i ≤ n ∧ s = .int .i64 i ∧ Blk wx sb 3 (natV (sumL n E i)) ∧ Mod (fun x => x = sb) W1 wx) (fun s _ => n - (intOf s).toNat)
        case atStart => exact ⟨0, Nat.zero_le _, rfl, HS2.out, HMD.out⟩
        case round =>
          obtain ⟨i, hi, rfl, hs, hmd⟩ := hrel
          clear HS2 HMD
          have HS := Lib.hid hs
          have HMD := Lib.hid hmd
          clear hs hmd
          by_cases hin : i < n
          · have d2 := (HG1.out.mod HMD.out (fun e => hne1 e)).cell (i := 2) rfl
            have c1 := blkN HS.out (i := i + 1) (by rw [sumL_length]; omega)
            have c0 := blkN HS.out (i := i) (by rw [sumL_length]; omega)
            have f1 := HS.out.free (i + 1)
            rw [sumL_at (by omega), if_neg (by omega), Nat.add_sub_cancel] at c1
            rw [sumL_at (by omega), if_pos (Nat.le_refl _)] at c0
            have hst := Lib.hid (sumL_step (E := E) hin)
            have hb1 := List.count_le_length (a := i) (l := E)
            have hb2 := pre_le E i
            rw [HEL.out] at hb1 hb2
            generalize List.count i E = ci at *
            generalize pre E i = pi at *
            have t1 : (i : Int) + 1 < (n1 : Int) := by omega
            have t2 : (i : Int) < (n1 : Int) := by omega
            have t3 : (0 : Int) ≤ (i : Int) := by omega
            have wi : IntKind.i64.wrap ((i : Int) + 1) = (i : Int) + 1 := IntWalk.i64_in _ (by omega)
            have wc1 : IntKind.i64.wrap ((ci : Int) + (pi : Int)) = (ci : Int) + (pi : Int) := IntWalk.i64_in _ (by omega)
            have zi : (0 : Int) ≤ (i : Int) + 1 := by omega
            have ni : ((i : Int) + 1).toNat = i + 1 := by omega
            go_wp2_with fail
            refine region_tailD 17 (by kernel_rfl) (by kernel_rfl) ?_
            intro w2 hw2
            replace d2 := hw2.cell d2
            replace c1 := hw2.cell c1
            replace c0 := hw2.cell c0
            replace f1 := hw2.frozen f1
            have HS3 := Lib.hid (hw2.blk HS.out)
            have HM3 := Lib.hid (hw2.mod HMD.out)
            clear hw2 HS HMD
            simp only [List.take_succ_cons, List.take_zero, List.drop_succ_cons, List.drop_zero]
            repeat still_step
            refine wpStill_nil ?_
            go_wp2_with fail
            have HS5 : Hid (Blk (w2.setCell ⟨sb, i + 1, none⟩ (.int .i64 ((ci : Int) + (pi : Int)))) sb 3 (natV (sumL n E (i + 1)))) := by
              have := blkN_set HS3.out (i + 1) (ci + pi)
              rw [hst.out] at this
              exact this
            clear wi wc1 zi ni
            go_roundw
            case rel => exact ⟨i + 1, by omega, by go_num, HS5.out, HM3.out.setCell _ (fun _ => rfl) _⟩
            case measure => simp [intOf]; omega
          · have hie : i = n := by omega
            have hie2 : ¬ (i : Int) < (n : Int) := by omega
            have hs3 : Blk wr sb 3 (natV (nxL n E [])) := by rw [nxL_start]; have := HS.out; rw [hie] at this; exact this
            have HS3 := Lib.hid hs3
            have d2 := (HG1.out.mod HMD.out (fun e => hne1 e)).cell (i := 2) rfl
            have hrow := rowN hs3
            rw [nxL_length, HN1.out] at hrow
            have HSRC := Lib.hid (Src.of_row (cap := n1) hrow (fun h => by cases h))
            clear HS hie hs3 hrow
            go_wp2_with fail
            with_reducible refine (cloneI_ok wr (some ⟨sb, 0, none⟩) n1 n1 _ HSRC.out (by omega)).mono ?_
            rintro e w3 ⟨v3, rfl, hnr⟩
            obtain ⟨nb, nc, rfl, hnc, hncm, hnl, _, _⟩ := owns_form hnr.own (by omega)
            have HN3 : Hid (w3.ownsRow 0 3 1 (.slice (some ⟨nb, 0, none⟩) n1 nc) n1 (natV (nxL n E []))) := by
              have := hnr.own
              rw [← natV_nI] at this
              exact this
            have hnbn := hnr.new nb rfl
            have hb3 := hnr.bel
            have HM3 := Lib.hid (HMD.out.trans (Mod.of_below (F := fun _ => False) hb3) (fun _ _ h => h.elim))
            have hgl : g < wr.heap.size := (HG1.out.mod HMD.out (fun e => hne1 e)).lt
            have hll : lb < wr.heap.size := (HL1.out.mod HMD.out (fun e => hne3 e.symm)).lt
            have hsl : sb < wr.heap.size := HS3.out.lt
            have HW1 : Hid (W1.heap.size ≤ wr.heap.size) := HMD.out.size
            clear hnr hb3 HMD d2 HSRC HS3
            go_wp2_with fail
            have HG3 := Lib.hid (HG1.out.mod HM3.out (fun e => hne1 e))
            have HL3 := Lib.hid (HL1.out.mod HM3.out (fun e => hne3 e.symm))
            go_loopw [86] (fun s wx => ∃ t : Nat, t ≤ m ∧ s = .int .i64 t ∧ wx.ownsRow 0 3 1 (.slice (some ⟨nb, 0, none⟩) n1 nc) n1 (natV (nxL n E (endsTo l t))) ∧ (∃ cs, cs.length = m2 ∧ Blk wx lb 3 cs) ∧ Mod (fun x => x = nb ∨ x = lb) w3 wx) (fun s _ => m - (intOf s).toNat)
            case atStart => exact ⟨0, Nat.zero_le _, rfl, HN3.out, ⟨_, by rw [natV_len, List.length_replicate], HL3.out⟩, Mod.refl _ _⟩
            case round =>
              obtain ⟨t, ht, rfl, hn', hl', hmd⟩ := hrel
              have HN := Lib.hid hn'
              have HL := Lib.hid hl'
              have HMD := Lib.hid hmd
              clear hn' hl' hmd HN3 HL3
              have hb3 : Hid (Below w.heap.size w w3) := bel_mod HB1.out HM3.out (fun x e => by rw [e]; exact hnw2)
              have hbw : Below w.heap.size w wr := bel_mod hb3.out HMD.out (fun x e => by rcases e with e | e; rw [e]; (have := HB1.out.size; have := HW1.out; omega); rw [e]; exact hnw3)
              by_cases htm : t < m
              · have htl : t < l.length := by rw [HE.out.size]; exact htm
                obtain ⟨c0, c1, c2⟩ := (HE.out.below hbw).cell t htm
                obtain rfl := HE.out.adr (by omega)
                obtain ⟨hu, hv, huv, eu, ev⟩ := HG.out.uv htl
                rw [eu] at c0
                rw [ev] at c1
                have HNX := Lib.hid (endsTo_succ l t)
                obtain ⟨GG, hGG⟩ := HESP.out t htm
                have HX1 := Lib.hid (nx_lt hGG)
                have HX2 := Lib.hid (nx_lt (E := E) (F := endsTo l t ++ [uN l t]) (v := vN l t) (G := GG) (by rw [hGG]; simp))
                rw [HEL.out, HM2.out] at HX1 HX2
                clear hGG
                generalize (EA l t).W = ww at *
                generalize uN l t = u at *
                generalize vN l t = v at *
                obtain ⟨cs, hcl, hcb⟩ := HL.out
                have HCB := Lib.hid hcb
                clear hcb HL
                go_wp2_with fail
                generalize hW : World.alloc wr _ = W
                have X0 : W.cell? ⟨wr.heap.size, 0, none⟩ = some (.int .i64 u) := by rw [← hW]; exact (Blk.new wr 82 [.int .i64 u, .int .i64 v, .int .i64 ww]).cell rfl
                have X1 : W.cell? ⟨wr.heap.size, 1, none⟩ = some (.int .i64 v) := by rw [← hW]; exact (Blk.new wr 82 [.int .i64 u, .int .i64 v, .int .i64 ww]).cell rfl
                have hbW : Below wr.heap.size wr W := by rw [← hW]; exact (Below.refl _ _).alloc (Nat.le_refl _) _
                have HNW := Lib.hid (owns_mod HN.out (Mod.of_below (F := fun _ => False) hbW) (fun _ _ h => h))
                have HCW := Lib.hid (HCB.out.below hbW HCB.out.lt)
                have HMW := Lib.hid (HMD.out.trans (Mod.of_below (F := fun _ => False) hbW) (fun _ _ h => h.elim))
                clear hW hbW c0 c1 c2 HN HCB HMD hbw
                go_wp2_with fail
                go_loopw [96] (fun s wx => ∃ q : Nat, q ≤ 2 ∧ s = .int .i64 q ∧ wx.ownsRow 0 3 1 (.slice (some ⟨nb, 0, none⟩) n1 nc) n1 (natV (nxL n E (endsTo l t ++ [u, v].take q))) ∧ (∃ cs, cs.length = m2 ∧ Blk wx lb 3 cs) ∧ Mod (fun x => x = nb ∨ x = lb) w3 wx) (fun s _ => 2 - (intOf s).toNat)
                case atStart => exact ⟨0, Nat.zero_le _, rfl, by simpa using HNW.out, ⟨cs, hcl, HCW.out⟩, HMW.out⟩
                case round =>
                  obtain ⟨q, hq, rfl, hn', ⟨cs', hcl', hcb'⟩, hmd⟩ := hrel
                  have HN := Lib.hid hn'
                  have HCB := Lib.hid hcb'
                  have HMD := Lib.hid hmd
                  clear hn' hcb' hmd HNW HCW HMW
                  by_cases hq2 : q < 2
                  · obtain ⟨z, hz, hidx, hxz, hzn⟩ : ∃ z : Nat, z < n ∧ (∀ w, (Instr.index 145 (.agg #[Value.int IntKind.i64 u, Value.int IntKind.i64 v]) (.int .i64 q)).run Tryz.prog w = .ok (.int .i64 z) w) ∧ pre E z + (endsTo l t ++ [u, v].take q).count z < m2 ∧ endsTo l t ++ [u, v].take (q + 1) = (endsTo l t ++ [u, v].take q) ++ [z] := by
                      have : q = 0 ∨ q = 1 := by omega
                      rcases this with rfl | rfl
                      · exact ⟨u, hu, fun _ => rfl, by simpa using HX1.out, by simp⟩
                      · exact ⟨v, hv, fun _ => rfl, by simpa using HX2.out, by simp⟩
                    have HZN := Lib.hid hzn
                    clear hzn
                    generalize endsTo l t ++ [u, v].take q = F at *
                    have hst := Lib.hid (nxL_step (n := n) (E := E) (F := F) hz)
                    have hnz := ownN HN.out (by rw [nxL_length]; exact HN1.out) (i := z) (by omega)
                    rw [nxL_at (by omega)] at hnz
                    obtain ⟨cz, fz⟩ := hnz
                    have d3 := (HG3.out.mod HMD.out (fun e => by rcases e with e | e; omega; exact hne2 e)).cell (i := 3) rfl
                    generalize pre E z + List.count z F = x at *
                    obtain ⟨cx, hcx⟩ : ∃ c, cs'[x]? = some c := ⟨_, List.getElem?_eq_getElem (by omega)⟩
                    have cl := HCB.out.cell hcx
                    have fl := HCB.out.free x
                    have hlnb : lb ≠ nb := by omega
                    have hgl' : g ≠ lb := hne2
                    have t1 : (z : Int) < (n1 : Int) := by omega
                    have t2 : (x : Int) < (m2 : Int) := by omega
                    have t3 : (0 : Int) ≤ (z : Int) := by omega
                    have t4 : (0 : Int) ≤ (x : Int) := by omega
                    go_wp2_with fail
                    refine region_tailD 10 (by kernel_rfl) (by kernel_rfl) ?_
                    intro w5 hw5
                    replace d3 := hw5.cell d3
                    replace cz := hw5.cell cz
                    replace fz := hw5.frozen fz
                    replace cl := hw5.cell cl
                    replace fl := hw5.frozen fl
                    have HN5 := Lib.hid (owns_mod HN.out (hw5.mod (Mod.refl (fun _ => False) wr)) (fun _ _ h => h))
                    have HC5 := Lib.hid (hw5.blk HCB.out)
                    have HM5 := Lib.hid (hw5.mod HMD.out)
                    clear hw5 HN HCB HMD hidx
                    simp only [List.take_succ_cons, List.take_zero, List.drop_succ_cons, List.drop_zero]
                    repeat still_step
                    refine wpStill_nil ?_
                    go_wp2_with fail
                    have HN6 : Hid (((w5.setCell ⟨lb, x, none⟩ (.int .i64 t)).setCell ⟨nb, z, none⟩ (.int .i64 ((x : Int) + 1))).ownsRow 0 3 1 (.slice (some ⟨nb, 0, none⟩) n1 nc) n1 (natV (nxL n E (F ++ [z])))) := by
                      have := ownN_set (owns_mod HN5.out ((Mod.refl (fun k => k = lb) w5).setCell ⟨lb, x, none⟩ (fun _ => rfl) (.int .i64 t)) (fun k e e' => by injection e with e; exact hlnb (e'.symm.trans e.symm))) (i := z) (by omega) (x + 1)
                      rw [hst.out] at this
                      exact this
                    go_roundw
                    case rel => exact ⟨q + 1, by omega, by go_num, by rw [HZN.out]; exact HN6.out, ⟨_, by simpa using hcl', (HC5.out.set x _).other ⟨nb, z, none⟩ _ hlnb⟩, (HM5.out.setCell _ (fun _ => .inr rfl) _).setCell _ (fun _ => .inl rfl) _⟩
                    case measure => simp [intOf]; omega
                  · obtain rfl : q = 2 := by omega
                    have HNF : Hid (wr.ownsRow 0 3 1 (.slice (some ⟨nb, 0, none⟩) n1 nc) n1 (natV (nxL n E (endsTo l (t + 1))))) := by
                      have := HN.out
                      show World.ownsRow _ _ _ _ _ _ _
                      rw [HNX.out, List.append_assoc]
                      exact this
                    go_wp2_with fail
                    go_roundw
                    case rel => exact ⟨t + 1, by omega, by go_num, HNF.out, ⟨cs', hcl', HCB.out⟩, HMD.out⟩
                    case measure => simp [intOf]; omega
              · have htm3 : ¬ (t : Int) < (m : Int) := by omega
                have HGF := Lib.hid (HG3.out.mod HMD.out (fun e => by rcases e with e | e; omega; exact hne2 e))
                go_wp2_with fail
                go_ret
                refine ⟨⟨g, sb, lb, rfl, ?_⟩, hbw⟩
                rw [HM2.out, HN1.out]
                exact HGF.out

end Go.Proofs.YthacjealoomioaaGreatDoor

/- graph.New. -/
namespace Go.Proofs.YthacjealoomioaaGreatDoor
set_option linter.unusedVariables false
set_option linter.unusedSimpArgs false
open Go.RowKit

/-- A graph of the program's. -/
structure GObj (w : World) (g n : Nat) (l : List Ed) : Prop where
  ex : ∃ ao cap b sb lb, Blk w g 105 [.pointer (some ⟨g, 0, none⟩), .slice ao l.length cap, .slice (some ⟨sb, 0, none⟩) (n + 1) (n + 1), .slice (some ⟨lb, 0, none⟩) (2 * l.length) (2 * l.length)] ∧ ERow w ao l.length b 0 l

theorem GObj.below {w w' : World} {g n : Nat} {l : List Ed} (h : GObj w g n l) (hb : Below w.heap.size w w') : GObj w' g n l := by
  obtain ⟨ao, cap, b, sb, lb, h1, h2⟩ := h.ex
  exact ⟨ao, cap, b, sb, lb, h1.below hb h1.lt, h2.below hb⟩

structure NwPost (w : World) (n : Int) (l : List Ed) (e : Ending) (w' : World) : Prop where
  out : ∃ p, e = .returned (.tuple #[.pointer p, .int .i64 (newErr n l)]) ∧ (newErr n l ≠ 0 → p = none) ∧ (newErr n l = 0 → ∃ g, p = some ⟨g, 0, none⟩ ∧ GObj w' g n.toNat l)
  bel : Below w.heap.size w w'

theorem NwPost.bad {w w' : World} {n : Int} {l : List Ed} {k : Int} (h : newErr n l = k) (hk : k ≠ 0) (hb : Below w.heap.size w w') : NwPost w n l (.returned (.tuple #[.pointer none, .int .i64 k])) w' :=
  ⟨⟨none, by rw [h], fun _ => rfl, fun e => absurd (h.symm.trans e) hk⟩, hb⟩

theorem NwPost.ok {w w' : World} {n : Int} {l : List Ed} {g : Nat} (h : newErr n l = 0) (hg : GObj w' g n.toNat l) (hb : Below w.heap.size w w') : NwPost w n l (.returned (.tuple #[.pointer (some ⟨g, 0, none⟩), .int .i64 0])) w' :=
  ⟨⟨some ⟨g, 0, none⟩, by rw [h], fun e => absurd h e, fun _ => ⟨g, rfl, hg⟩⟩, hb⟩

theorem err_then {n : Int} {e : Ed} {k r : Int} (h : edErr n e = k) (hk : k ≠ 0) : (if edErr n e = 0 then r else edErr n e) = k := by
  rw [h, if_neg hk]

theorem newErr_from {n : Int} {l : List Ed} (h : ¬ (n < 0 ∨ 4096 < n ∨ 16384 < l.length)) : newErr n l = errFrom n (l.drop 0) := by
  unfold newErr; rw [if_neg h]; rfl

set_option maxHeartbeats 4000000 in
set_option maxRecDepth 100000 in
theorem new_ok (w : World) (n : Int) (ao : Option Addr) (m cap b off : Nat) (l : List Ed) (he : ERow w ao m b off l) (hm : m ≤ 9223372036854775807) (hnil : ao = none → cap = 0) (hn64 : -9223372036854775808 ≤ n ∧ n ≤ 9223372036854775807) :
    Calls Tryz.prog 54 #[.int .i64 n, .slice ao m cap] w (NwPost w n l) := by
  have HE := Lib.hid he
  have HS := Lib.hid he.size
  have HNIL := Lib.hid hnil
  clear he hnil
  by_cases h1 : n < 0
  · have t1 : decide (n < 0) = true := by simp [h1]
    have HF : Hid (newErr n l = 2) := by show _ = _; unfold newErr; rw [if_pos (.inl h1)]
    clear h1
    go_enter Tryz.func54, Tryz.ntmps54
    go_wp2_with fail
    go_ret2
    exact NwPost.bad HF.out (by decide) (Below.refl _ _)
  by_cases h2 : 4096 < n
  · have t1 : decide (n < 0) = false := by simp; omega
    have t2 : decide (4096 < n) = true := by simp [h2]
    have HF : Hid (newErr n l = 2) := by show _ = _; unfold newErr; rw [if_pos (.inr (.inl h2))]
    clear h1 h2
    go_enter Tryz.func54, Tryz.ntmps54
    go_wp2_with fail
    go_ret2
    exact NwPost.bad HF.out (by decide) (Below.refl _ _)
  have t1 : decide (n < 0) = false := by simp; omega
  have t2 : decide (4096 < n) = false := by simp; omega
  by_cases h3 : 16384 < m
  · have t3 : decide (16384 < m) = true := by simp [h3]
    have t3' : decide ((16384 : Int) < (m : Int)) = true := by simp; omega
    have HF : Hid (newErr n l = 2) := by show _ = _; unfold newErr; rw [if_pos (.inr (.inr (by rw [HS.out]; exact h3)))]
    clear h1 h2 h3
    go_enter Tryz.func54, Tryz.ntmps54
    go_wp2_with fail
    go_ret2
    exact NwPost.bad HF.out (by decide) (Below.refl _ _)
  have t3 : decide (16384 < m) = false := by simp; omega
  have t3' : decide ((16384 : Int) < (m : Int)) = false := by simp; omega
  have HF := Lib.hid (newErr_from (n := n) (l := l) (by rw [HS.out]; omega))
  have hm2 : m ≤ 16384 := by omega
  have hn2 : 0 ≤ n := by omega
  have hn3 : n ≤ 4096 := by omega
  clear h1 h2 h3
  go_enter Tryz.func54, Tryz.ntmps54
  go_wp2_with fail
  clear t1 t2 t3 t3'
  go_loopw [21] (fun s wr => ∃ t : Nat, t ≤ m ∧ s = .int .i64 t ∧ Below w.heap.size w wr ∧ newErr n l = errFrom n (l.drop t)) (fun s _ => m - (intOf s).toNat)
  case atStart => exact ⟨0, Nat.zero_le _, rfl, Below.refl _ _, HF.out⟩
  case round =>
    obtain ⟨t, ht, rfl, hb, hf⟩ := hrel
    have HB := Lib.hid hb
    have HF' := Lib.hid hf
    clear hb hf HF
    by_cases htm : t < m
    · obtain ⟨c0, c1, c2⟩ := (HE.out.below HB.out).cell t htm
      obtain rfl := HE.out.adr (by omega)
      have hd := Lib.hid (HF'.out.trans (errFrom_drop (by rw [HS.out]; exact htm)))
      have HB2 := Lib.hid (HB.out.alloc HB.out.size (.cells #[.int .i64 (EA l t).U, .int .i64 (EA l t).V, .int .i64 (EA l t).W] 82))
      generalize EA l t = ed at *
      obtain ⟨U, V, W⟩ := ed
      simp only at c0 c1 c2 HB2
      by_cases h1 : U < 0
      · have t1 : decide (U < 0) = true := by simp [h1]
        have HR : Hid (newErr n l = 3) := hd.out.trans (err_then (by unfold edErr; exact if_pos (.inl h1)) (by decide))
        clear h1 hd
        go_wp2_with fail
        go_ret2
        exact NwPost.bad HR.out (by decide) HB2.out
      have t1 : decide (U < 0) = false := by simp; omega
      by_cases h2 : n ≤ U
      · have t2 : decide (n ≤ U) = true := by simp [h2]
        have HR : Hid (newErr n l = 3) := hd.out.trans (err_then (by unfold edErr; exact if_pos (.inr (.inl h2))) (by decide))
        clear h1 h2 hd
        go_wp2_with fail
        go_ret2
        exact NwPost.bad HR.out (by decide) HB2.out
      have t2 : decide (n ≤ U) = false := by simp; omega
      by_cases h3 : V < 0
      · have t3 : decide (V < 0) = true := by simp [h3]
        have HR : Hid (newErr n l = 3) := hd.out.trans (err_then (by unfold edErr; exact if_pos (.inr (.inr (.inl h3)))) (by decide))
        clear h1 h2 h3 hd
        go_wp2_with fail
        go_ret2
        exact NwPost.bad HR.out (by decide) HB2.out
      have t3 : decide (V < 0) = false := by simp; omega
      by_cases h4 : n ≤ V
      · have t4 : decide (n ≤ V) = true := by simp [h4]
        have HR : Hid (newErr n l = 3) := hd.out.trans (err_then (by unfold edErr; exact if_pos (.inr (.inr (.inr h4)))) (by decide))
        clear h1 h2 h3 h4 hd
        go_wp2_with fail
        go_ret2
        exact NwPost.bad HR.out (by decide) HB2.out
      have t4 : decide (n ≤ V) = false := by simp; omega
      by_cases h5 : U = V
      · have t5 : (U == V) = true := by simp [h5]
        have HR : Hid (newErr n l = 9) := hd.out.trans (err_then (by unfold edErr; rw [if_neg (by simp only; omega)]; exact if_pos h5) (by decide))
        clear h1 h2 h3 h4 h5 hd
        go_wp2_with fail
        go_ret2
        exact NwPost.bad HR.out (by decide) HB2.out
      have t5 : (U == V) = false := by simp [h5]
      have HR : Hid (newErr n l = errFrom n (l.drop (t + 1))) := by
        show _ = _
        rw [hd.out]
        have : edErr n ⟨U, V, W⟩ = 0 := edErr_zero.2 (by simp only; omega)
        rw [this, if_pos rfl]
      clear h1 h2 h3 h4 h5 hd
      go_wp2_with fail
      go_roundw
      case rel => exact ⟨t + 1, by omega, by go_num, HB2.out, HR.out⟩
      case measure => simp [intOf]; omega
    · have htm3 : ¬ (t : Int) < (m : Int) := by omega
      have HZ : Hid (newErr n l = 0) := by
        show _ = _
        rw [HF'.out, List.drop_of_length_le (by rw [HS.out]; omega)]; rfl
      obtain ⟨k, hk, hg⟩ := GOk.of_err HZ.out
      have HG := Lib.hid hg
      obtain rfl := hk
      have HSR := Lib.hid (Src.of_edges (HE.out.below HB.out) HNIL.out)
      clear HF' hg
      go_wp2_with fail
      with_reducible refine (cloneE_ok wr ao m cap (edCells l) HSR.out (by omega)).mono ?_
      rintro e w2 ⟨v2, rfl, hnr⟩
      have ho := hnr.own
      rw [← HS.out] at ho
      obtain ⟨ao2, cap2, b2, e2, he2, _⟩ := ERow.of_owns ho
      subst e2
      have HE2 := Lib.hid he2
      have HB2 := Lib.hid (bel_then HB.out hnr.bel)
      clear hnr ho he2
      go_wp2_with fail
      with_reducible refine (build_ok w2 k ao2 l.length cap2 b2 0 l HE2.out HG.out).mono ?_
      rintro e w3 ⟨⟨g, sb, lb, rfl, hgb⟩, hb3⟩
      have HGB : Hid (GObj w3 g k l) := ⟨ao2, cap2, b2, sb, lb, hgb, HE2.out.below hb3⟩
      have HB3 := Lib.hid (bel_then HB2.out hb3)
      clear hgb hb3
      go_wp2_with fail
      go_ret2
      exact NwPost.ok HZ.out HGB.out HB3.out

end Go.Proofs.YthacjealoomioaaGreatDoor

/- cmp.Compare, cmp.Or; kruskal.Order. -/
namespace Go.Proofs.YthacjealoomioaaGreatDoor
set_option linter.unusedVariables false
set_option linter.unusedSimpArgs false
open Go.RowKit

def cmpI (a b : Int) : Int := if a < b then -1 else if b < a then 1 else 0
def orI (x y : Int) : Int := if x = 0 then y else x

set_option maxHeartbeats 400000 in
theorem isNaN64 (a : Int) (w : World) : Calls Tryz.prog 111 #[.int .i64 a] w (Ret (.bool false) w) := by
  go_enter Tryz.func111, Tryz.ntmps111
  go_wp2
  go_ret
  exact ⟨by simp, rfl⟩

set_option maxHeartbeats 400000 in
theorem isNaNi (a : Int) (w : World) : Calls Tryz.prog 116 #[.int .i64 a] w (Ret (.bool false) w) := by
  go_enter Tryz.func116, Tryz.ntmps116
  go_wp2
  go_ret
  exact ⟨by simp, rfl⟩

set_option maxHeartbeats 400000 in
theorem compare64 (a b : Int) (w : World) : Calls Tryz.prog 79 #[.int .i64 a, .int .i64 b] w (Ret (.int .i64 (cmpI a b)) w) := by
  go_enter Tryz.func79, Tryz.ntmps79
  go_wp2_with (go_at_call 111; refine (isNaN64 _ _).mono ?_; rintro e w' ⟨rfl, rfl⟩)
  all_goals
    go_ret
    exact ⟨ret_int (by unfold cmpI; repeat' split; all_goals omega), rfl⟩

set_option maxHeartbeats 400000 in
theorem comparei (a b : Int) (w : World) : Calls Tryz.prog 89 #[.int .i64 a, .int .i64 b] w (Ret (.int .i64 (cmpI a b)) w) := by
  go_enter Tryz.func89, Tryz.ntmps89
  go_wp2_with (go_at_call 116; refine (isNaNi _ _).mono ?_; rintro e w' ⟨rfl, rfl⟩)
  all_goals
    go_ret
    exact ⟨ret_int (by unfold cmpI; repeat' split; all_goals omega), rfl⟩

set_option maxHeartbeats 400000 in
theorem or2 (b : Nat) (x y : Int) (w : World) (hx : w.cell? ⟨b, 0, none⟩ = some (.int .i64 x)) (hy : w.cell? ⟨b, 1, none⟩ = some (.int .i64 y)) :
    Calls Tryz.prog 126 #[.slice (some ⟨b, 0, none⟩) 2 2] w (Ret (.int .i64 (orI x y)) w) := by
  go_enter Tryz.func126, Tryz.ntmps126
  go_wp2
  go_loop [8] (fun i => ∃ k : Nat, k ≤ 2 ∧ i = .int .i64 k ∧ Hid (0 < k → x = 0) ∧ Hid (1 < k → y = 0)) (fun i => 2 - (intOf i).toNat)
  case atStart => exact ⟨0, by omega, rfl, by intro h; omega, by intro h; omega⟩
  case round =>
    obtain ⟨k, hk, rfl, H0, H1⟩ := hrel
    obtain rfl | rfl | rfl : k = 0 ∨ k = 1 ∨ k = 2 := by omega
    · by_cases hz : x = 0
      · have hb : (x != 0) = false := by simp [hz]
        have HZ := Lib.hid hz
        clear hz
        go_wp2
        go_round
        case rel => exact ⟨1, by omega, rfl, fun _ => HZ.out, by intro h; omega⟩
        case measure => simp [intOf]
      · have hb : (x != 0) = true := by simp [hz]
        have HZ := Lib.hid hz
        clear hz
        go_wp2
        go_ret
        exact ⟨ret_int (by unfold orI; rw [if_neg HZ.out]), rfl⟩
    · by_cases hz : y = 0
      · have hb : (y != 0) = false := by simp [hz]
        have HZ := Lib.hid hz
        clear hz
        go_wp2
        go_round
        case rel => exact ⟨2, by omega, rfl, fun _ => H0.out (by omega), fun _ => HZ.out⟩
        case measure => simp [intOf]
      · have hb : (y != 0) = true := by simp [hz]
        have HZ := Lib.hid hz
        clear hz
        go_wp2
        go_ret
        exact ⟨ret_int (by unfold orI; rw [if_pos (H0.out (by omega))]), rfl⟩
    · go_wp2
      go_ret
      exact ⟨ret_int (by unfold orI; rw [if_pos (H0.out (by omega)), H1.out (by omega)]), rfl⟩

/-- The order of two edges, by their numbers. -/
def ordC (l : List Ed) (i j : Nat) : Int := orI (cmpI (wI l i) (wI l j)) (cmpI i j)

theorem ordC_neg (l : List Ed) (i j : Nat) : ordC l i j < 0 ↔ olt l i j := by
  unfold ordC orI cmpI olt
  constructor
  · intro h
    by_cases h1 : wI l i < wI l j
    · exact .inl h1
    · by_cases h2 : wI l j < wI l i
      · rw [if_neg h1, if_pos h2, if_neg (by decide)] at h; omega
      · rw [if_neg h1, if_neg h2, if_pos rfl] at h
        by_cases h3 : (i : Int) < (j : Int)
        · exact .inr ⟨by omega, by omega⟩
        · rw [if_neg h3] at h
          split at h <;> omega
  · rintro (h1 | ⟨h1, h2⟩)
    · rw [if_pos h1, if_neg (by decide)]; decide
    · have a1 : (if wI l i < wI l j then (-1 : Int) else if wI l j < wI l i then 1 else 0) = 0 := by rw [if_neg (by omega), if_neg (by omega)]
      have a2 : (if (i : Int) < (j : Int) then (-1 : Int) else if (j : Int) < (i : Int) then 1 else 0) = -1 := if_pos (by omega)
      rw [a1, a2, if_pos rfl]
      decide

set_option maxRecDepth 100000 in
set_option maxHeartbeats 1000000 in
theorem ordf_ok (w : World) (pb : Nat) (ao : Option Addr) (m cap b off : Nat) (l : List Ed) (hc : w.cell? ⟨pb, 0, none⟩ = some (.slice ao m cap)) (he : ERow w ao m b off l) (hm : m ≤ 16384) (i j : Nat) (hi : i < m) (hj : j < m) :
    Calls Tryz.prog 125 #[.int .i64 i, .int .i64 j, .pointer (some ⟨pb, 0, none⟩)] w (fun e w' => e = .returned (.int .i64 (ordC l i j)) ∧ ∃ q os', w' = Go.Sort.grow (w.drewN q) os') := by
  obtain ⟨_, _, ci⟩ := he.cell i hi
  obtain ⟨_, _, cj⟩ := he.cell j hj
  obtain rfl := he.adr (by omega)
  have ei : (EA l i).W = wI l i := rfl
  have ej : (EA l j).W = wI l j := rfl
  rw [ei] at ci
  rw [ej] at cj
  have HO : Hid (orI (cmpI (wI l i) (wI l j)) (cmpI i j) = ordC l i j) := rfl
  generalize wI l i = wi at *
  generalize wI l j = wj at *
  have HH : Hid (∀ x : Obj, ∃ q os', ((w.drew).alloc x) = Go.Sort.grow (w.drewN q) os') := by
    intro x
    exact ⟨1, _, by rw [Go.Sort.alloc_eq_grow]; rfl⟩
  have t1 : (i : Int) < (m : Int) := by omega
  have t2 : (j : Int) < (m : Int) := by omega
  have t3 : (0 : Int) ≤ (i : Int) := by omega
  have t4 : (0 : Int) ≤ (j : Int) := by omega
  clear he ei ej
  go_enter Tryz.func125, Tryz.ntmps125
  go_wp2_with fail
  refine region_tail 14 (by kernel_rfl) (by kernel_rfl) ?_
  intro w2 hw2
  rw [← hw2] at HH
  have d0 : w2.cell? ⟨pb, 0, none⟩ = some (.slice (some ⟨b, off, none⟩) m cap) := by rw [hw2]; exact hc
  have d1 : w2.cell? ⟨b, off + i * 3 + 2, none⟩ = some (.int .i64 wi) := by rw [hw2]; exact ci
  have d2 : w2.cell? ⟨b, off + j * 3 + 2, none⟩ = some (.int .i64 wj) := by rw [hw2]; exact cj
  clear hw2 hc ci cj
  simp only [List.take_succ_cons, List.take_zero, List.drop_succ_cons, List.drop_zero]
  repeat still_step
  still_call (Ret.still (compare64 wi wj _))
  repeat still_step
  still_call (Ret.still (comparei i j _))
  refine wpStill_nil ?_
  clear d0 d1 d2
  go_wp2_with (go_at_call 126; refine (or2 _ (cmpI wi wj) (cmpI i j) _ (by simp) (by simp)).mono ?_; rintro e w' ⟨rfl, rfl⟩)
  go_ret
  exact ⟨ret_int HO.out, HH.out _⟩

end Go.Proofs.YthacjealoomioaaGreatDoor
