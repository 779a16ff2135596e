/- DrH, DrM. -/
import Derived.Test.YthacjealoomioaaGreatDoorZGr
import Derived.Test.YthacjealoomioaaGreatDoorZHa
import Derived.Test.YthacjealoomioaaGreatDoorZHf
import Derived.Test.YthacjealoomioaaGreatDoorZDmA
import Derived.BigQuiet
import Derived.Deep.RegionHeld3
import Derived.Deep.DeepCutAuto
import Derived.Deep.CutBlock
/- The reference of layer 22: Cut. (printed by drh.py) -/
namespace Go.Proofs.YthacjealoomioaaGreatDoor
set_option linter.unusedVariables false
set_option linter.unusedSimpArgs false
open Go.RowKit

theorem cutL_len (t : Tr) (n m : Nat) (ls : List Nat) (ce : Nat) : (cutL t n m ls ce).length = n := by simp [cutL]
theorem cutL_at {t : Tr} {n m : Nat} {ls : List Nat} {ce v : Nat} (h : v < n) : (cutL t n m ls ce).getD v 0 = ls.getD (ix t m ce v) 0 := by
  unfold cutL
  rw [List.getD_eq_getElem?_getD, List.getElem?_map, List.getElem?_range h]; rfl
theorem take_natV {l : List Nat} {i : Nat} (h : i < l.length) : natV (l.take i) ++ [.int .i64 ((l.getD i 0 : Nat) : Int)] = natV (l.take (i + 1)) := by
  rw [take_snocN h]
  simp [natV]

set_option maxHeartbeats 16000000 in
set_option maxRecDepth 100000 in
theorem r22cut_ok (w : World) (A : TA) (t : Tr) (ht : TreeAt w A t) (hmm : t.left.length ≤ 1000000) (k : Int) (hk64 : -9223372036854775808 ≤ k ∧ k ≤ 9223372036854775807) : Calls Tryz.prog 42 #[A.agg t, .int .i64 k] w (CtPost w t k) := by
  have HT := Lib.hid ht
  have HB := Lib.hid (TBox.new w A t)
  have HW := Lib.hid (bel_alloc w (.cells #[.int .i64 t.lv, .slice A.l.o t.left.length A.l.c, .slice A.r.o t.right.length A.r.c, .slice A.p.o t.par.length A.p.c, .slice A.h.o t.hgt.length A.h.c, .slice A.s.o t.siz.length A.s.c] 27))
  have HT2 := Lib.hid (ht.below HW.out)
  have c0 := TBox.c0 HB.out
  have c1 := TBox.c1 HB.out
  have c2 := TBox.c2 HB.out
  have c3 := TBox.c3 HB.out
  have c4 := TBox.c4 HB.out
  have c5 := TBox.c5 HB.out
  clear ht
  show Calls _ _ #[.agg #[.int .i64 t.lv, .slice A.l.o t.left.length A.l.c, .slice A.r.o t.right.length A.r.c, .slice A.p.o t.par.length A.p.c, .slice A.h.o t.hgt.length A.h.c, .slice A.s.o t.siz.length A.s.c], _] _ _
  go_enter Tryz.func42, Tryz.ntmps42
  go_wp2_with fail
  with_reducible refine (rvalid_ok _ A t HT2.out hmm).mono ?_
  rintro e w2 ⟨rfl, hb⟩
  have HW2 := Lib.hid (bel_then HW.out hb)
  have HB2 := Lib.hid (Blk.below HB.out hb (Blk.lt HB.out))
  have HT3 := Lib.hid (HT2.out.below hb)
  clear hb c0 c1 c2 c3 c4 c5
  cases hl : lsL t with
  | none =>
    have HC : Hid (cutO t k = (2, [])) := by show _ = _; unfold cutO; rw [hl]
    rw [okV_none hl]
    clear hl
    go_wp2_with fail
    go_ret2
    exact CtPost.no HC.out (by decide) HW2.out
  | some ls =>
    obtain ⟨n, hn, hv⟩ := tv_of hl
    obtain ⟨m, hm⟩ : ∃ m, t.par.length = m := ⟨_, rfl⟩
    have HC : Hid (cutO t k = if k < ((rootsL t n m ls).length : Int) ∨ (n : Int) < k then (3, []) else (0, cutL t n m ls (n + ((n : Int) - k).toNat))) := by show _ = _; unfold cutO; rw [hl]; simp only; rw [hn, hm, Int.toNat_natCast]
    have HRO : Hid (rootsO t = some (rootsL t n m ls)) := by show _ = _; rw [rootsO_some hl, hn, hm, Int.toNat_natCast]
    rw [hm] at hv
    have HV := Lib.hid hv
    have HM := Lib.hid hm
    have HN := Lib.hid hn
    have hn4 := hv.hn
    have hm2 := hv.two
    have hnm := hv.nm
    rw [okV_some hl]
    have c0 := TBox.c0 HB2.out
    have c1 := TBox.c1 HB2.out
    have c2 := TBox.c2 HB2.out
    have c3 := TBox.c3 HB2.out
    have c4 := TBox.c4 HB2.out
    have c5 := TBox.c5 HB2.out
    clear hl hn hm hv
    have hcon := rroots_ok w2 A t HT3.out hmm
    rw [HRO.out] at hcon
    go_wp2_with fail
    with_reducible refine hcon.mono ?_
    rintro e w3 hp
    obtain ⟨v3, rfl, hnr, hx3⟩ := hp.ok _ rfl
    obtain ⟨ra, rcap, rb, rfl, _, _⟩ := own_rowN hnr rfl
    have hb := hp.bel
    obtain ⟨R, HRL⟩ : ∃ R, Hid ((rootsL t n m ls).length = R) := ⟨_, rfl⟩
    rw [HRL.out] at HC
    simp only [HRL.out]
    have HW3 := Lib.hid (bel_then HW2.out hb)
    have HB3 := Lib.hid (Blk.below HB2.out hb (Blk.lt HB2.out))
    have HT4 := Lib.hid (HT3.out.below hb)
    clear hp hb hnr hx3 hcon c0 c1 c2 c3 c4 c5
    have c0 := TBox.c0 HB3.out
    rw [HN.out] at c0
    by_cases k1 : k < (R : Int)
    · have t1 : decide (k < (R : Int)) = true := decide_eq_true k1
      have HC2 : Hid (cutO t k = (3, [])) := by show _ = _; rw [HC.out, if_pos (.inl k1)]
      clear k1
      go_wp2_with fail
      go_ret2
      exact CtPost.no HC2.out (by decide) HW3.out
    have t1 : decide (k < (R : Int)) = false := decide_eq_false k1
    by_cases k2 : (n : Int) < k
    · have t2 : decide ((n : Int) < k) = true := decide_eq_true k2
      have HC2 : Hid (cutO t k = (3, [])) := by show _ = _; rw [HC.out, if_pos (.inr k2)]
      clear k1 k2
      go_wp2_with fail
      go_ret2
      exact CtPost.no HC2.out (by decide) HW3.out
    have t2 : decide ((n : Int) < k) = false := decide_eq_false k2
    obtain ⟨kk, rfl⟩ := Int.eq_ofNat_of_zero_le (show 0 ≤ k by omega)
    have t1n : decide (kk < R) = false := decide_eq_false (by omega)
    have t2n : decide (n < kk) = false := decide_eq_false (by omega)
    obtain ⟨ce, HCE⟩ : ∃ c, Hid (n + (n - kk) = c) := ⟨_, rfl⟩
    have HC2 : Hid (cutO t (kk : Int) = (0, cutL t n m ls ce)) := by
      show _ = _
      rw [HC.out, if_neg (by omega), show ((n : Int) - (kk : Int)).toNat = n - kk by omega, HCE.out]
    obtain ⟨CL, HCL⟩ : ∃ l, Hid (cutL t n m ls ce = l) := ⟨_, rfl⟩
    have HCLL : Hid (CL.length = n) := by show _ = _; rw [← HCL.out, cutL_len]
    have hkn : kk ≤ n := by omega
    have hce : ce ≤ 8192 := by have := HCE.out; omega
    clear k1 k2 c0
    have c0 := TBox.c0 HB3.out
    rw [HN.out] at c0
    go_wp2_with fail
    clear c0 t1 t2 t1n t2n
    go_loopw [6, 7] (fun v s wr => ∃ i : Nat, i ≤ n ∧ s = .int .i64 (i : Int) ∧ wr.ownsRow 0 3 1 v i (natV (CL.take i)) ∧ (∀ y, v.ownBlock = some y → w3.heap.size ≤ y) ∧ Below w3.heap.size w3 wr) (fun _ s _ => n - (intOf s).toNat)
    case atStart => exact ⟨0, Nat.zero_le _, rfl, World.ownsRow_nil _ _ _ _, (fun y hy => by cases hy), Below.refl _ _⟩
    case round =>
      obtain ⟨i, hi, rfl, hown, hvb, hbr⟩ := hrel
      have HOW := Lib.hid hown
      have HVB := Lib.hid hvb
      have HBR := Lib.hid hbr
      have HBX := Lib.hid (Blk.below HB3.out hbr (Blk.lt HB3.out))
      clear hown hvb hbr
      have c0 := TBox.c0 HBX.out
      rw [HN.out] at c0
      by_cases hin : i < n
      · have t1 : (i : Int) < (n : Int) := by omega
        go_wp2_with fail
        clear t1 c0
        go_loopw [8] (fun s wr => ∃ x : Nat, x < m ∧ s = .int .i64 (x : Int) ∧ ix t m ce i = ix t m ce x ∧ wr.ownsRow 0 3 1 u6 i (natV (CL.take i)) ∧ Below w3.heap.size w3 wr) (fun s _ => m - (intOf s).toNat)
        case atStart => exact ⟨i, by omega, rfl, rfl, HOW.out, HBR.out⟩
        case round =>
          obtain ⟨x, hx, rfl, hix, hown, hbq⟩ := hrel
          clear HOW HBR HBX
          have HOW := Lib.hid hown
          have HBQ := Lib.hid hbq
          have HBX := Lib.hid (Blk.below HB3.out hbq (Blk.lt HB3.out))
          have HTX := Lib.hid (HT4.out.below hbq)
          have HIX := Lib.hid hix
          clear hown hbq hix
          obtain ⟨ea, e1⟩ := HTX.out.p.get (i := x) (by rw [HM.out]; exact hx)
          have c0 := TBox.c0 HBX.out
          have c3 := TBox.c3 HBX.out
          rw [HN.out] at c0
          rw [HM.out, ea] at c3
          have u1 : (x : Int) < (m : Int) := by omega
          have u2 : (0 : Int) ≤ (x : Int) := by omega
          obtain ⟨n2, HN2⟩ : ∃ z, Hid (n + n = z) := ⟨_, rfl⟩
          have g1 : (n : Int) + (n : Int) = (n2 : Int) := by have := HN2.out; omega
          have g2 : IntKind.i64.wrap (n2 : Int) = (n2 : Int) := IntWalk.i64_in _ (by have := HN2.out; omega)
          have g3 : (n2 : Int) - (kk : Int) = (ce : Int) := by have := HN2.out; have := HCE.out; omega
          have g4 : IntKind.i64.wrap (ce : Int) = (ce : Int) := IntWalk.i64_in _ (by omega)
          have g2' : wrap64 (n2 : Int) = (n2 : Int) := by unfold wrap64; have := HN2.out; omega
          have g4' : wrap64 (ce : Int) = (ce : Int) := by unfold wrap64; omega
          clear ea
          have hpar := HV.out.par hx
          rcases hpar with hp | ⟨p, hp, p1, p2, p3, _⟩
          · as_aux_lemma =>
            have HXE : Hid (ix t m ce x = x) := ix_root HV.out hx (by rw [hp]; decide)
            rw [hp] at e1
            have v1 : decide ((0 : Int) ≤ -1) = false := by decide
            have HLS : Hid (CL.getD i 0 = ls.getD x 0) := by show _ = _; rw [← HCL.out, cutL_at hin, HIX.out, HXE.out]
            have HLX := Lib.hid (ls_lt HV.out x hx)
            go_wp2_with fail
            go_quiet (fail)
            have HBX6 := Lib.hid (Blk.below HBX.out (bel_drewN (Below.refl wr.heap.size wr) nq) (Blk.lt HBX.out))
            have HT6 := Lib.hid (HTX.out.below (bel_drewN (Below.refl wr.heap.size wr) nq))
            have HO6 : Hid ((wr.drewN nq).ownsRow 0 3 1 u6 i (natV (CL.take i))) := owns_mod (F := fun _ => False) HOW.out ((Mod.refl _ wr).drewN nq) (fun _ _ h => h)
            have HB6 := Lib.hid (bel_drewN HBQ.out nq)
            clear e1 c0 c3 HBX HTX HOW HBQ g1 g2 g3 g4 g2' g4'
            generalize wr.drewN nq = w6 at *
            have c0 := TBox.c0 HBX6.out
            have c1 := TBox.c1 HBX6.out
            have c2 := TBox.c2 HBX6.out
            have c3 := TBox.c3 HBX6.out
            have c4 := TBox.c4 HBX6.out
            have c5 := TBox.c5 HBX6.out
            have hcon := r22least_ok w6 A t HT6.out n m ls HV.out x hx
            rw [← HLS.out] at hcon
            obtain ⟨q, HQ⟩ : ∃ q, Hid (CL.getD i 0 = q) := ⟨_, rfl⟩
            rw [HQ.out] at hcon
            go_wp2_with fail
            with_reducible refine hcon.mono ?_
            rintro e w7 ⟨rfl, hb⟩
            have HO7 : Hid (w7.ownsRow 0 3 1 u6 i (natV (CL.take i))) := owns_mod (F := fun _ => False) HO6.out (Mod.of_below hb) (fun _ _ h => h)
            have HB7 := Lib.hid (HB6.out.trans (hb.mono HB6.out.size))
            clear hb hcon HO6 HB6 HT6 HBX6 c0 c1 c2 c3 c4 c5
            have HOWN := Lib.hid (HO7.out.alloc (.cells #[.int .i64 (q : Int)] 3))
            have HNW := Lib.hid (news_new w7 3 [.int .i64 (q : Int)])
            go_wp2_with (at_builtin; apply keepIt)
            apply Lib.hid
            refine wpList_appendB 3 (.int .i64 0) 1 8 Tryz.underlying24 Tryz.infoInt rfl (by decide) _ i (natV (CL.take i)) rfl HOWN.out ⟨w7.heap.size, 0, none⟩ 1 1 [.int .i64 (q : Int)] rfl rfl HNW.out (by simp [Value.oneCell']) (by unfold maxLen; omega) (by omega) ?_
            intro v' w8 a1 a2 a3
            have HV8 : Hid (∀ y, v'.ownBlock = some y → w3.heap.size ≤ y) := fun y hy => by
              rcases a3 y hy with e | e
              · exact HVB.out y e
              · have e2 : w7.heap.size + 1 ≤ y := by simpa using e
                have := HB7.out.size
                omega
            have HO8 : Hid (w8.ownsRow 0 3 1 v' (i + 1) (natV (CL.take (i + 1)))) := by
              have h := take_natV (l := CL) (i := i) (by rw [HCLL.out]; exact hin)
              rw [HQ.out] at h
              rw [h] at a1
              exact a1
            have HB8 : Hid (Below w3.heap.size w3 w8) := (HB7.out.trans ((bel_alloc w7 (.cells #[.int .i64 (q : Int)] 3)).mono HB7.out.size)).trans (grown_below a2 (fun y hy => HVB.out y hy) (by have := HB7.out.size; simp; omega))
            clear a1 a2 a3 HOWN HNW HO7 HB7 HVB
            go_wp2_with fail
            go_roundw
            case rel => exact ⟨i + 1, by omega, by go_num, HO8.out, HV8.out, HB8.out⟩
            case measure => simp [intOf]; omega
          · have hxp := ix_par HV.out (c := ce) hx hp
            have HPP := Lib.hid hp
            rw [hp] at e1
            have v1 : decide ((0 : Int) ≤ (p : Int)) = true := decide_eq_true (Int.natCast_nonneg p)
            by_cases hpc : p < ce
            · as_aux_lemma =>
              have HIP : Hid (ix t m ce i = ix t m ce p) := by show _ = _; rw [HIX.out, hxp, if_pos hpc]
              have v2 : decide ((p : Int) < (ce : Int)) = true := decide_eq_true (Int.ofNat_lt.2 hpc)
              have v2' : decide (p < ce) = true := decide_eq_true hpc
              clear hxp hp hpc
              go_wp2_with fail
              go_quiet (fail)
              have HBX6 := Lib.hid (Blk.below HBX.out (bel_drewN (Below.refl wr.heap.size wr) nq) (Blk.lt HBX.out))
              have HT6 := Lib.hid (HTX.out.below (bel_drewN (Below.refl wr.heap.size wr) nq))
              have HO6 : Hid ((wr.drewN nq).ownsRow 0 3 1 u6 i (natV (CL.take i))) := owns_mod (F := fun _ => False) HOW.out ((Mod.refl _ wr).drewN nq) (fun _ _ h => h)
              have HB6 := Lib.hid (bel_drewN HBQ.out nq)
              have HPV := HPP
              clear c0 c3 e1 HBX HTX HOW HBQ g1 g2 g3 g4 g2' g4'
              generalize wr.drewN nq = w6 at *
              obtain ⟨ea, e1⟩ := HT6.out.p.get (i := x) (by rw [HM.out]; exact hx)
              have c3 := TBox.c3 HBX6.out
              rw [HM.out, ea] at c3
              rw [HPV.out] at e1
              clear ea
              go_wp2_with fail
              go_roundw
              case rel => exact ⟨p, p3, rfl, HIP.out, HO6.out, HB6.out⟩
              case measure => simp [intOf]; omega
            · as_aux_lemma =>
              have HXE : Hid (ix t m ce x = x) := by show _ = _; rw [hxp, if_neg hpc]
              have v2 : decide ((p : Int) < (ce : Int)) = false := decide_eq_false (fun h => hpc (Int.ofNat_lt.1 h))
              have v2' : decide (p < ce) = false := decide_eq_false hpc
              clear hxp hp hpc
              have HLS : Hid (CL.getD i 0 = ls.getD x 0) := by show _ = _; rw [← HCL.out, cutL_at hin, HIX.out, HXE.out]
              have HLX := Lib.hid (ls_lt HV.out x hx)
              go_wp2_with fail
              go_quiet (fail)
              have HBX6 := Lib.hid (Blk.below HBX.out (bel_drewN (Below.refl wr.heap.size wr) nq) (Blk.lt HBX.out))
              have HT6 := Lib.hid (HTX.out.below (bel_drewN (Below.refl wr.heap.size wr) nq))
              have HO6 : Hid ((wr.drewN nq).ownsRow 0 3 1 u6 i (natV (CL.take i))) := owns_mod (F := fun _ => False) HOW.out ((Mod.refl _ wr).drewN nq) (fun _ _ h => h)
              have HB6 := Lib.hid (bel_drewN HBQ.out nq)
              clear e1 c0 c3 HBX HTX HOW HBQ g1 g2 g3 g4 g2' g4'
              generalize wr.drewN nq = w6 at *
              have c0 := TBox.c0 HBX6.out
              have c1 := TBox.c1 HBX6.out
              have c2 := TBox.c2 HBX6.out
              have c3 := TBox.c3 HBX6.out
              have c4 := TBox.c4 HBX6.out
              have c5 := TBox.c5 HBX6.out
              have hcon := r22least_ok w6 A t HT6.out n m ls HV.out x hx
              rw [← HLS.out] at hcon
              obtain ⟨q, HQ⟩ : ∃ q, Hid (CL.getD i 0 = q) := ⟨_, rfl⟩
              rw [HQ.out] at hcon
              go_wp2_with fail
              with_reducible refine hcon.mono ?_
              rintro e w7 ⟨rfl, hb⟩
              have HO7 : Hid (w7.ownsRow 0 3 1 u6 i (natV (CL.take i))) := owns_mod (F := fun _ => False) HO6.out (Mod.of_below hb) (fun _ _ h => h)
              have HB7 := Lib.hid (HB6.out.trans (hb.mono HB6.out.size))
              clear hb hcon HO6 HB6 HT6 HBX6 c0 c1 c2 c3 c4 c5
              have HOWN := Lib.hid (HO7.out.alloc (.cells #[.int .i64 (q : Int)] 3))
              have HNW := Lib.hid (news_new w7 3 [.int .i64 (q : Int)])
              go_wp2_with (at_builtin; apply keepIt)
              apply Lib.hid
              refine wpList_appendB 3 (.int .i64 0) 1 8 Tryz.underlying24 Tryz.infoInt rfl (by decide) _ i (natV (CL.take i)) rfl HOWN.out ⟨w7.heap.size, 0, none⟩ 1 1 [.int .i64 (q : Int)] rfl rfl HNW.out (by simp [Value.oneCell']) (by unfold maxLen; omega) (by omega) ?_
              intro v' w8 a1 a2 a3
              have HV8 : Hid (∀ y, v'.ownBlock = some y → w3.heap.size ≤ y) := fun y hy => by
                rcases a3 y hy with e | e
                · exact HVB.out y e
                · have e2 : w7.heap.size + 1 ≤ y := by simpa using e
                  have := HB7.out.size
                  omega
              have HO8 : Hid (w8.ownsRow 0 3 1 v' (i + 1) (natV (CL.take (i + 1)))) := by
                have h := take_natV (l := CL) (i := i) (by rw [HCLL.out]; exact hin)
                rw [HQ.out] at h
                rw [h] at a1
                exact a1
              have HB8 : Hid (Below w3.heap.size w3 w8) := (HB7.out.trans ((bel_alloc w7 (.cells #[.int .i64 (q : Int)] 3)).mono HB7.out.size)).trans (grown_below a2 (fun y hy => HVB.out y hy) (by have := HB7.out.size; simp; omega))
              clear a1 a2 a3 HOWN HNW HO7 HB7 HVB
              go_wp2_with fail
              go_roundw
              case rel => exact ⟨i + 1, by omega, by go_num, HO8.out, HV8.out, HB8.out⟩
              case measure => simp [intOf]; omega
      · obtain rfl : i = n := by omega
        have t1 : ¬ (i : Int) < (i : Int) := by omega
        have HTK : Hid (CL.take i = CL) := List.take_of_length_le (by rw [HCLL.out]; exact Nat.le_refl _)
        go_wp2_with fail
        go_ret2
        refine ⟨fun h => absurd (by rw [HC2.out]) h, fun _ => ⟨_, rfl, ?_, fun x hx => Nat.le_trans HW3.out.size (HVB.out x hx)⟩, bel_then HW3.out HBR.out⟩
        rw [HC2.out, HCL.out, HCLL.out]
        have := HOW.out
        rw [HTK.out] at this
        exact this

end Go.Proofs.YthacjealoomioaaGreatDoor

/- The reference of layer 22: Merges. (printed by drm.py) -/
namespace Go.Proofs.YthacjealoomioaaGreatDoor
set_option linter.unusedVariables false
set_option linter.unusedSimpArgs false
open Go.RowKit

structure MgOut (B : Nat) (w3 : World) (i : Nat) (row : List Value) (v : Value) (wx : World) : Prop where
  own : wx.ownsRow 0 51 5 v i row
  new : ∀ y, v.ownBlock = some y → B ≤ y
  bel : Below B w3 wx

theorem keep10M {F : Nat → Prop} {B : Nat} {w w' : World} {p0 p1 p2 p3 p4 p5 p6 p7 p8 p9 : Addr} {v0 v1 v2 v3 v4 v5 v6 v7 v8 v9 : Value} (hF : ∀ b, b < B → ¬ F b) (h0 : Hid (w.cell? p0 = some v0)) (h1 : Hid (w.cell? p1 = some v1)) (h2 : Hid (w.cell? p2 = some v2)) (h3 : Hid (w.cell? p3 = some v3)) (h4 : Hid (w.cell? p4 = some v4)) (h5 : Hid (w.cell? p5 = some v5)) (h6 : Hid (w.cell? p6 = some v6)) (h7 : Hid (w.cell? p7 = some v7)) (h8 : Hid (w.cell? p8 = some v8)) (h9 : Hid (w.cell? p9 = some v9)) (l0 : Hid (p0.block < B)) (l1 : Hid (p1.block < B)) (l2 : Hid (p2.block < B)) (l3 : Hid (p3.block < B)) (l4 : Hid (p4.block < B)) (l5 : Hid (p5.block < B)) (l6 : Hid (p6.block < B)) (l7 : Hid (p7.block < B)) (l8 : Hid (p8.block < B)) (l9 : Hid (p9.block < B)) (hb : Mod F w w') :
    w'.cell? p0 = some v0 ∧ w'.cell? p1 = some v1 ∧ w'.cell? p2 = some v2 ∧ w'.cell? p3 = some v3 ∧ w'.cell? p4 = some v4 ∧ w'.cell? p5 = some v5 ∧ w'.cell? p6 = some v6 ∧ w'.cell? p7 = some v7 ∧ w'.cell? p8 = some v8 ∧ w'.cell? p9 = some v9 ∧ Mod F w w' :=
  ⟨(hb.cell (World.block_lt_of_cell? w _ h0.out) (hF _ l0.out)).trans h0.out, (hb.cell (World.block_lt_of_cell? w _ h1.out) (hF _ l1.out)).trans h1.out, (hb.cell (World.block_lt_of_cell? w _ h2.out) (hF _ l2.out)).trans h2.out, (hb.cell (World.block_lt_of_cell? w _ h3.out) (hF _ l3.out)).trans h3.out, (hb.cell (World.block_lt_of_cell? w _ h4.out) (hF _ l4.out)).trans h4.out, (hb.cell (World.block_lt_of_cell? w _ h5.out) (hF _ l5.out)).trans h5.out, (hb.cell (World.block_lt_of_cell? w _ h6.out) (hF _ l6.out)).trans h6.out, (hb.cell (World.block_lt_of_cell? w _ h7.out) (hF _ l7.out)).trans h7.out, (hb.cell (World.block_lt_of_cell? w _ h8.out) (hF _ l8.out)).trans h8.out, (hb.cell (World.block_lt_of_cell? w _ h9.out) (hF _ l9.out)).trans h9.out, hb⟩

set_option maxHeartbeats 16000000 in
set_option maxRecDepth 100000 in
theorem r22merges_ok (w : World) (A : TA) (t : Tr) (ht : TreeAt w A t) (hmm : t.left.length ≤ 1000000) : Calls Tryz.prog 40 #[A.agg t] w (MgPost w t) := by
  have HT := Lib.hid ht
  have HB := Lib.hid (TBox.new w A t)
  have HW := Lib.hid (bel_alloc w (.cells #[.int .i64 t.lv, .slice A.l.o t.left.length A.l.c, .slice A.r.o t.right.length A.r.c, .slice A.p.o t.par.length A.p.c, .slice A.h.o t.hgt.length A.h.c, .slice A.s.o t.siz.length A.s.c] 27))
  have HT2 := Lib.hid (ht.below HW.out)
  have c0 := TBox.c0 HB.out
  have c1 := TBox.c1 HB.out
  have c2 := TBox.c2 HB.out
  have c3 := TBox.c3 HB.out
  have c4 := TBox.c4 HB.out
  have c5 := TBox.c5 HB.out
  clear ht
  show Calls _ _ #[.agg #[.int .i64 t.lv, .slice A.l.o t.left.length A.l.c, .slice A.r.o t.right.length A.r.c, .slice A.p.o t.par.length A.p.c, .slice A.h.o t.hgt.length A.h.c, .slice A.s.o t.siz.length A.s.c]] _ _
  go_enter Tryz.func40, Tryz.ntmps40
  go_wp2_with fail
  with_reducible refine (rvalid_ok _ A t HT2.out hmm).mono ?_
  rintro e w2 ⟨rfl, hb⟩
  have HW2 := Lib.hid (bel_then HW.out hb)
  have HB2 := Lib.hid (Blk.below HB.out hb (Blk.lt HB.out))
  have HT3 := Lib.hid (HT2.out.below hb)
  clear hb c0 c1 c2 c3 c4 c5
  cases hl : lsL t with
  | none =>
    have HL0 := Lib.hid hl
    rw [okV_none hl]
    clear hl
    go_wp2_with fail
    go_ret2
    exact ⟨fun _ => rfl, fun ls h => (by rw [HL0.out] at h; cases h), HW2.out⟩
  | some ls =>
    have HL0 := Lib.hid hl
    obtain ⟨n, hn, hv⟩ := tv_of hl
    obtain ⟨m, hm⟩ : ∃ m, t.par.length = m := ⟨_, rfl⟩
    rw [hm] at hv
    have HV := Lib.hid hv
    have HM := Lib.hid hm
    have HN := Lib.hid hn
    have hn4 := hv.hn
    have hm2 := hv.two
    have hnm := hv.nm
    have HLL : Hid (t.left.length = m) := hv.ll
    have HRL : Hid (t.right.length = m) := hv.rl
    have HHL : Hid (t.hgt.length = m) := hv.hl
    have HSL : Hid (t.siz.length = m) := hv.sl
    rw [okV_some hl]
    clear hl hn hm hv
    have c0 := TBox.c0 HB2.out
    rw [HN.out] at c0
    obtain ⟨xb, HXB⟩ : ∃ xb, Hid (w.heap.size = xb) := ⟨_, rfl⟩
    simp only [HXB.out] at HB2 c0 ⊢
    go_wp2_with fail
    clear c0
    go_loopw [4, 5] (fun v s wr => ∃ i : Nat, n + i ≤ m ∧ s = .int .i64 ((n + i : Nat) : Int) ∧ MgOut w2.heap.size w2 i (mgTo t n ls i) v wr) (fun _ s _ => m - (intOf s).toNat)
    case atStart => exact ⟨0, hnm, rfl, World.ownsRow_nil _ _ _ _, (fun y hy => by cases hy), Below.refl _ _⟩
    case round =>
      obtain ⟨i, him, rfl, hmo⟩ := hrel
      have HMO := Lib.hid hmo
      have HBX := Lib.hid (Blk.below HB2.out hmo.bel (Blk.lt HB2.out))
      have HTX := Lib.hid (HT3.out.below hmo.bel)
      clear hmo
      have c1 := TBox.c1 HBX.out
      rw [HLL.out] at c1
      obtain ⟨x, HX⟩ : ∃ x, Hid (n + i = x) := ⟨_, rfl⟩
      simp only [HX.out] at him ⊢
      have hnx : n ≤ x := by have := HX.out; omega
      by_cases hxm : x < m
      · obtain ⟨h1, h2, _, _, _, h6, h7⟩ := HV.out.child hnx hxm
        obtain ⟨l, HLC⟩ : ∃ l, Hid (lc t x = l) := ⟨_, rfl⟩
        obtain ⟨r, HRC⟩ : ∃ l, Hid (rc t x = l) := ⟨_, rfl⟩
        obtain ⟨g, HGG⟩ : ∃ l, Hid (gi t.hgt x = l) := ⟨_, rfl⟩
        obtain ⟨z, HZZ⟩ : ∃ l, Hid (gi t.siz x = l) := ⟨_, rfl⟩
        obtain ⟨E1, d1⟩ := HTX.out.l.get (i := x) (by rw [HLL.out]; exact hxm)
        obtain ⟨E2, d2⟩ := HTX.out.r.get (i := x) (by rw [HRL.out]; exact hxm)
        obtain ⟨E3, d3⟩ := HTX.out.h.get (i := x) (by rw [HHL.out]; exact hxm)
        obtain ⟨E4, d4⟩ := HTX.out.s.get (i := x) (by rw [HSL.out]; exact hxm)
        rw [HLC.out] at h1 h6
        rw [HRC.out] at h2 h7
        rw [h6] at d1
        rw [h7] at d2
        rw [HGG.out] at d3
        rw [HZZ.out] at d4
        have c0 := TBox.c0 HBX.out
        have c2 := TBox.c2 HBX.out
        have c3 := TBox.c3 HBX.out
        have c4 := TBox.c4 HBX.out
        have c5 := TBox.c5 HBX.out
        rw [HN.out] at c0
        rw [E1] at c1
        rw [E2, HRL.out] at c2
        rw [HM.out] at c3
        rw [E3, HHL.out] at c4
        rw [E4, HSL.out] at c5
        have HAG : Hid (A.agg t = .agg #[.int .i64 (n : Int), .slice (some ⟨A.l.b, A.l.f, none⟩) m A.l.c, .slice (some ⟨A.r.b, A.r.f, none⟩) m A.r.c, .slice A.p.o m A.p.c, .slice (some ⟨A.h.b, A.h.f, none⟩) m A.h.c, .slice (some ⟨A.s.b, A.s.f, none⟩) m A.s.c]) := by
          show Value.agg #[.int .i64 t.lv, .slice A.l.o t.left.length A.l.c, .slice A.r.o t.right.length A.r.c, .slice A.p.o t.par.length A.p.c, .slice A.h.o t.hgt.length A.h.c, .slice A.s.o t.siz.length A.s.c] = _
          rw [HN.out, HLL.out, HRL.out, HM.out, HHL.out, HSL.out, E1, E2, E3, E4]
        have HLE : Hid (∀ W', Below wr.heap.size wr W' → ∀ y p, y < m → ls.getD y 0 = p → Calls Tryz.prog 69 #[.agg #[.int .i64 (n : Int), .slice (some ⟨A.l.b, A.l.f, none⟩) m A.l.c, .slice (some ⟨A.r.b, A.r.f, none⟩) m A.r.c, .slice A.p.o m A.p.c, .slice (some ⟨A.h.b, A.h.f, none⟩) m A.h.c, .slice (some ⟨A.s.b, A.s.f, none⟩) m A.s.c], .int .i64 (y : Int)] W' (RetB (.int .i64 (p : Int)) W')) := fun W' hW y p hy hp => by
          have := r22least_ok W' A t (HTX.out.below hW) n m ls HV.out y hy
          rw [HAG.out, hp] at this
          exact this
        obtain ⟨p, HP⟩ : ∃ p, Hid (ls.getD l 0 = p) := ⟨_, rfl⟩
        obtain ⟨q, HQ⟩ : ∃ p, Hid (ls.getD r 0 = p) := ⟨_, rfl⟩
        have HLEL : Hid (∀ W', Below wr.heap.size wr W' → Calls Tryz.prog 69 #[.agg #[.int .i64 (n : Int), .slice (some ⟨A.l.b, A.l.f, none⟩) m A.l.c, .slice (some ⟨A.r.b, A.r.f, none⟩) m A.r.c, .slice A.p.o m A.p.c, .slice (some ⟨A.h.b, A.h.f, none⟩) m A.h.c, .slice (some ⟨A.s.b, A.s.f, none⟩) m A.s.c], .int .i64 (l : Int)] W' (RetB (.int .i64 (p : Int)) W')) := fun W' hW => HLE.out W' hW l p (by omega) HP.out
        have HLER : Hid (∀ W', Below wr.heap.size wr W' → Calls Tryz.prog 69 #[.agg #[.int .i64 (n : Int), .slice (some ⟨A.l.b, A.l.f, none⟩) m A.l.c, .slice (some ⟨A.r.b, A.r.f, none⟩) m A.r.c, .slice A.p.o m A.p.c, .slice (some ⟨A.h.b, A.h.f, none⟩) m A.h.c, .slice (some ⟨A.s.b, A.s.f, none⟩) m A.s.c], .int .i64 (r : Int)] W' (RetB (.int .i64 (q : Int)) W')) := fun W' hW => HLE.out W' hW r q (by omega) HQ.out
        have HROW : Hid (mgTo t n ls i ++ [.int .i64 (p : Int), .int .i64 (q : Int), .int .i64 g, .int .i64 1, .int .i64 z] = mgTo t n ls (i + 1)) := by
          show _ = mgTo t n ls i ++ mgV t ls (n + i)
          rw [HX.out]
          unfold mgV
          rw [HLC.out, HRC.out, HGG.out, HZZ.out, HP.out, HQ.out]
        have hil : i ≤ 8192 := by have := HX.out; omega
        have u1 : (x : Int) < (m : Int) := by omega
        have u2 : (0 : Int) ≤ (x : Int) := by omega
        have D0 := Lib.hid c0
        have D1 := Lib.hid c1
        have D2 := Lib.hid c2
        have D3 := Lib.hid c3
        have D4 := Lib.hid c4
        have D5 := Lib.hid c5
        have D6 := Lib.hid d1
        have D7 := Lib.hid d2
        have D8 := Lib.hid d3
        have D9 := Lib.hid d4
        have NF : Hid (∀ b, b < w2.heap.size → ¬ (fun k => u4.ownBlock = some k) b) := fun b hb e => by have := HMO.out.new b e; omega
        have BX : Hid (xb < w2.heap.size) := Blk.lt HB2.out
        have BL : Hid (A.l.b < w2.heap.size) := HT3.out.l.lt (by rw [HLL.out]; omega)
        have BR : Hid (A.r.b < w2.heap.size) := HT3.out.r.lt (by rw [HRL.out]; omega)
        have BH : Hid (A.h.b < w2.heap.size) := HT3.out.h.lt (by rw [HHL.out]; omega)
        have BS : Hid (A.s.b < w2.heap.size) := HT3.out.s.lt (by rw [HSL.out]; omega)
        have hy : Below wr.heap.size wr wr.drew := (Below.refl _ _).drew
        clear E1 E2 E3 E4 h1 h2 h6 h7 HLE
        go_upto_block 1 with (fail)
        go_cut [4] (fun v wx => MgOut w2.heap.size w2 (i + 1) (mgTo t n ls i ++ [.int .i64 (p : Int), .int .i64 (q : Int), .int .i64 g, .int .i64 1, .int .i64 z]) v wx)
        case first =>
          go_wp2_with fail
          go_region_held3 (fun w' => w'.cell? ⟨xb, 0, none⟩ = some (.int .i64 (n : Int)) ∧ w'.cell? ⟨xb, 1, none⟩ = some (.slice (some ⟨A.l.b, A.l.f, none⟩) m A.l.c) ∧ w'.cell? ⟨xb, 2, none⟩ = some (.slice (some ⟨A.r.b, A.r.f, none⟩) m A.r.c) ∧ w'.cell? ⟨xb, 3, none⟩ = some (.slice A.p.o m A.p.c) ∧ w'.cell? ⟨xb, 4, none⟩ = some (.slice (some ⟨A.h.b, A.h.f, none⟩) m A.h.c) ∧ w'.cell? ⟨xb, 5, none⟩ = some (.slice (some ⟨A.s.b, A.s.f, none⟩) m A.s.c) ∧ w'.cell? ⟨A.l.b, A.l.f + x, none⟩ = some (.int .i64 (l : Int)) ∧ w'.cell? ⟨A.r.b, A.r.f + x, none⟩ = some (.int .i64 (r : Int)) ∧ w'.cell? ⟨A.h.b, A.h.f + x, none⟩ = some (.int .i64 g) ∧ w'.cell? ⟨A.s.b, A.s.f + x, none⟩ = some (.int .i64 z) ∧ Mod (fun k => u4.ownBlock = some k) wr w')
            (((try go_split_ands); refine keep10M NF.out D0 D1 D2 D3 D4 D5 D6 D7 D8 D9 BX.out BX.out BX.out BX.out BX.out BX.out BL.out BR.out BH.out BS.out ?_; first | assumption | exact Mod.of_below hy | exact (Mod.of_below hy).alloc _ | exact (Mod.refl _ _).drew))
            (first
              | (go_at_call 69; (try go_split_ands); (with_reducible refine (HLEL.out _ hy).mono ?_); rintro e wa ⟨rfl, hx⟩; have hy := bel_then hy hx; clear hx)
              | (go_at_call 69; (try go_split_ands); (with_reducible refine (HLER.out _ hy).mono ?_); rintro e wa ⟨rfl, hx⟩; have hy := bel_then hy hx; clear hx)
              | ((try go_split_ands); have hyy : Below wr.heap.size wr wa := hy; refine step_appB 51 (.agg #[.int .i64 0, .int .i64 0, .int .i64 0, .int .i64 0, .int .i64 0]) 5 40 Tryz.underlying42 Tryz.infoMergeD rfl (by decide) u4 i (mgTo t n ls i) rfl ((owns_mod (F := fun _ => False) HMO.out.own (Mod.of_below hyy) (fun _ _ h => h)).alloc _) ⟨wa.heap.size, 0, none⟩ 1 1 [.int .i64 (p : Int), .int .i64 (q : Int), .int .i64 g, .int .i64 1, .int .i64 z] rfl rfl (news_new wa 51 [.int .i64 (p : Int), .int .i64 (q : Int), .int .i64 g, .int .i64 1, .int .i64 z]) (by simp [Value.oneCell']) (by unfold maxLen; omega) (by omega) ?_; intro v6 w6 ho6 hg6 hn6; have hm6 : Mod (fun k => u4.ownBlock = some k) wr w6 := ((Mod.of_below hyy).alloc _).grown hg6 (fun k e _ => e); have hout : MgOut w2.heap.size w2 (i + 1) (mgTo t n ls i ++ [.int .i64 (p : Int), .int .i64 (q : Int), .int .i64 g, .int .i64 1, .int .i64 z]) v6 w6 := ⟨ho6, fun y hy6 => (hn6 y hy6).elim (fun e => HMO.out.new y e) (fun e => Nat.le_trans (Nat.le_trans HMO.out.bel.size (Nat.le_trans hyy.size (Nat.le_succ _))) (by simpa using e)), HMO.out.bel.trans (hm6.below HMO.out.bel.size (fun y e => HMO.out.new y e))⟩; clear ho6 hg6 hn6 hyy))
          all_goals
            have HOUT := Lib.hid hout
            clear hout
            go_wp2_with fail
            go_meet
            exact HOUT.out
        case rest =>
          have HM9 : Hid (MgOut w2.heap.size w2 (i + 1) (mgTo t n ls (i + 1)) u4 wc) := by
            have := hcut
            rw [HROW.out] at this
            exact this
          clear hcut c0 c1 c2 c3 c4 c5 d1 d2 d3 d4 hy
          go_wp2_with fail
          go_roundw
          case rel => exact ⟨i + 1, by have := HX.out; omega, by have := HX.out; go_num, HM9.out⟩
          case measure => simp [intOf]; omega
      · obtain rfl : x = m := by omega
        have t1 : ¬ (x : Int) < (x : Int) := by omega
        go_wp2_with fail
        go_ret2
        refine ⟨fun h => (by rw [HL0.out] at h; cases h), fun ls' h => ?_, bel_then HW2.out HMO.out.bel⟩
        rw [HL0.out] at h
        injection h with h
        subst h
        have e : x - t.lv.toNat = i := by have := HX.out; rw [HN.out, Int.toNat_natCast]; omega
        refine ⟨_, rfl, ?_, fun y hy => Nat.le_trans HW2.out.size (HMO.out.new y hy)⟩
        rw [HM.out, e, HN.out, Int.toNat_natCast]
        exact HMO.out.own

end Go.Proofs.YthacjealoomioaaGreatDoor
