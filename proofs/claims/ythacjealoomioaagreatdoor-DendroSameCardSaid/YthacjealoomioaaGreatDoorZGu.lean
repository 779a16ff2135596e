/- DrF, DrG. -/
import Derived.Test.YthacjealoomioaaGreatDoorZDrE
import Derived.Test.YthacjealoomioaaGreatDoorZGo
import Derived.Test.YthacjealoomioaaGreatDoorZRcRh
import Derived.Lib.QuietBelow
import Derived.BigQuiet
/- The reference of layer 22: text of a node. -/
namespace Go.Proofs.YthacjealoomioaaGreatDoor
set_option linter.unusedVariables false
set_option linter.unusedSimpArgs false
open Go.RowKit Go.Lib

theorem str_add {A B C : ByteArray} (h : A ++ B = C) (hs : A.size + B.size ≤ 9223372036854775807) : ∀ w, (Op.stringOp .add A B).run Tryz.prog w = .ok (.string C) w := fun w => by
  rw [← h]; exact run_string_add_sum w A B hs

set_option maxHeartbeats 8000000 in
set_option maxRecDepth 100000 in
theorem r22text_ok (A : TA) (t : Tr) (n m : Nat) (ls : List Nat) (tv : TV t n m ls) (h64 : ∀ x, x < m → In64 (gi t.hgt x)) :
    ∀ x, x < m → (bt t n x).txt.length ≤ 1000000 → ∀ w, TreeAt w A t → Calls Tryz.prog 73 #[A.agg t, .int .i64 (x : Int)] w (RetB (.string ⟨(bt t n x).txt.toArray⟩) w) := by
  have HV := Lib.hid tv
  have H64 := Lib.hid h64
  have hn4 := tv.hn
  have hm2 := tv.two
  clear tv h64
  intro x
  induction x using Nat.strongRecOn with
  | _ x ih =>
    intro hx hlen w ht
    have HIH := Lib.hid ih
    have HB := Lib.hid (TBox.new w A t)
    have HW := Lib.hid (bel_alloc w (.cells #[.int .i64 t.lv, .slice A.l.o t.left.length A.l.c, .slice A.r.o t.right.length A.r.c, .slice A.p.o t.par.length A.p.c, .slice A.h.o t.hgt.length A.h.c, .slice A.s.o t.siz.length A.s.c] 27))
    have HT2 := Lib.hid (ht.below HW.out)
    have c0 := HB.out.c0
    clear ih ht
    show Calls _ _ #[.agg #[.int .i64 t.lv, .slice A.l.o t.left.length A.l.c, .slice A.r.o t.right.length A.r.c, .slice A.p.o t.par.length A.p.c, .slice A.h.o t.hgt.length A.h.c, .slice A.s.o t.siz.length A.s.c], _] _ _
    by_cases hxn : x < n
    · have t1 : (x : Int) < t.lv := by rw [HV.out.lv]; omega
      have t2 : decide ((x : Int) < t.lv) = true := decide_eq_true t1
      have HT : Hid ((bt t n x).txt = Lib.itoa (x : Int)) := by show _ = _; rw [bt_leaf hxn]; rfl
      have h64x : In64 (x : Int) := by unfold In64; omega
      clear hlen hxn
      go_enter Tryz.func73, Tryz.ntmps73
      go_wp2_with fail
      with_reducible refine (r22decimal_ok (x : Int) h64x _).mono ?_
      rintro e w2 ⟨rfl, hb⟩
      have HB2 := Lib.hid (bel_then HW.out hb)
      clear hb c0
      go_wp2_with fail
      go_ret
      rw [HT.out]
      exact ⟨rfl, HB2.out⟩
    · obtain ⟨c1, c2, _, _, _, c6, c7⟩ := HV.out.child (x := x) (by omega) hx
      have hbt := bt_node HV.out (x := x) (by omega) hx
      obtain ⟨l, HLC⟩ : ∃ l, Hid (lc t x = l) := ⟨_, rfl⟩
      obtain ⟨r, HRC⟩ : ∃ r, Hid (rc t x = r) := ⟨_, rfl⟩
      obtain ⟨h, HHG⟩ : ∃ h, Hid (gi t.hgt x = h) := ⟨_, rfl⟩
      rw [HLC.out, HRC.out, HHG.out] at hbt
      rw [HLC.out] at c1 c6
      rw [HRC.out] at c2 c7
      have hH := H64.out x hx
      rw [HHG.out] at hH
      obtain ⟨LT, HLT⟩ : ∃ s, Hid ((bt t n l).txt = s) := ⟨_, rfl⟩
      obtain ⟨RT, HRT⟩ : ∃ s, Hid ((bt t n r).txt = s) := ⟨_, rfl⟩
      obtain ⟨DT, HDT⟩ : ∃ s, Hid (Lib.itoa h = s) := ⟨_, rfl⟩
      have htx : (bt t n x).txt = 40 :: (LT ++ 44 :: (RT ++ 41 :: 58 :: DT)) := by rw [hbt, BT.txt, HLT.out, HRT.out, HDT.out]
      rw [htx] at hlen
      have hlen2 : LT.length + RT.length + DT.length + 4 ≤ 1000000 := by simp only [List.length_cons, List.length_append] at hlen; omega
      have HTX := Lib.hid htx
      have HIL : Hid (∀ W', Below (w.alloc (.cells #[.int .i64 t.lv, .slice A.l.o t.left.length A.l.c, .slice A.r.o t.right.length A.r.c, .slice A.p.o t.par.length A.p.c, .slice A.h.o t.hgt.length A.h.c, .slice A.s.o t.siz.length A.s.c] 27)).heap.size (w.alloc (.cells #[.int .i64 t.lv, .slice A.l.o t.left.length A.l.c, .slice A.r.o t.right.length A.r.c, .slice A.p.o t.par.length A.p.c, .slice A.h.o t.hgt.length A.h.c, .slice A.s.o t.siz.length A.s.c] 27)) W' → Calls Tryz.prog 73 #[A.agg t, .int .i64 (l : Int)] W' (RetB (.string ⟨LT.toArray⟩) W')) := fun W' hW => by
        have := HIH.out l c1 (by omega) (by rw [HLT.out]; omega) W' (HT2.out.below hW)
        rw [HLT.out] at this
        exact this
      have HIR : Hid (∀ W', Below (w.alloc (.cells #[.int .i64 t.lv, .slice A.l.o t.left.length A.l.c, .slice A.r.o t.right.length A.r.c, .slice A.p.o t.par.length A.p.c, .slice A.h.o t.hgt.length A.h.c, .slice A.s.o t.siz.length A.s.c] 27)).heap.size (w.alloc (.cells #[.int .i64 t.lv, .slice A.l.o t.left.length A.l.c, .slice A.r.o t.right.length A.r.c, .slice A.p.o t.par.length A.p.c, .slice A.h.o t.hgt.length A.h.c, .slice A.s.o t.siz.length A.s.c] 27)) W' → Calls Tryz.prog 73 #[A.agg t, .int .i64 (r : Int)] W' (RetB (.string ⟨RT.toArray⟩) W')) := fun W' hW => by
        have := HIH.out r c2 (by omega) (by rw [HRT.out]; omega) W' (HT2.out.below hW)
        rw [HRT.out] at this
        exact this
      have HID : Hid (∀ W', Calls Tryz.prog 108 #[.int .i64 h] W' (RetB (.string ⟨DT.toArray⟩) W')) := fun W' => by
        have := r22decimal_ok h hH W'
        rw [HDT.out] at this
        exact this
      obtain ⟨BL, HBL⟩ : ∃ B : ByteArray, Hid ((⟨LT.toArray⟩ : ByteArray) = B) := ⟨_, rfl⟩
      obtain ⟨BR, HBR⟩ : ∃ B : ByteArray, Hid ((⟨RT.toArray⟩ : ByteArray) = B) := ⟨_, rfl⟩
      obtain ⟨BD, HBD⟩ : ∃ B : ByteArray, Hid ((⟨DT.toArray⟩ : ByteArray) = B) := ⟨_, rfl⟩
      have s1 : BL.size = LT.length := by rw [← HBL.out]; rfl
      have s2 : BR.size = RT.length := by rw [← HBR.out]; rfl
      have s3 : BD.size = DT.length := by rw [← HBD.out]; rfl
      rw [HBL.out] at HIL
      rw [HBR.out] at HIR
      rw [HBD.out] at HID
      have k1 : (⟨#[40]⟩ : ByteArray).size = 1 := rfl
      have k2 : (⟨#[44]⟩ : ByteArray).size = 1 := rfl
      have k3 : (⟨#[41, 58]⟩ : ByteArray).size = 2 := rfl
      obtain ⟨C1, HC1⟩ : ∃ C, Hid ((⟨#[40]⟩ : ByteArray) ++ BL = C) := ⟨_, rfl⟩
      have z1 : C1.size = 1 + LT.length := by rw [← HC1.out, ByteArray.size_append, k1, s1]
      obtain ⟨C2, HC2⟩ : ∃ C, Hid (C1 ++ (⟨#[44]⟩ : ByteArray) = C) := ⟨_, rfl⟩
      have z2 : C2.size = 2 + LT.length := by rw [← HC2.out, ByteArray.size_append, k2, z1]; omega
      obtain ⟨C3, HC3⟩ : ∃ C, Hid (C2 ++ BR = C) := ⟨_, rfl⟩
      have z3 : C3.size = 2 + LT.length + RT.length := by rw [← HC3.out, ByteArray.size_append, z2, s2]
      obtain ⟨C4, HC4⟩ : ∃ C, Hid (C3 ++ (⟨#[41, 58]⟩ : ByteArray) = C) := ⟨_, rfl⟩
      have z4 : C4.size = 4 + LT.length + RT.length := by rw [← HC4.out, ByteArray.size_append, z3, k3]; omega
      obtain ⟨C5, HC5⟩ : ∃ C, Hid (C4 ++ BD = C) := ⟨_, rfl⟩
      have HFIN : Hid ((⟨(bt t n x).txt.toArray⟩ : ByteArray) = C5) := by
        show _ = _
        rw [HTX.out, ← HC5.out, ← HC4.out, ← HC3.out, ← HC2.out, ← HC1.out, ← HBL.out, ← HBR.out, ← HBD.out]
        apply ByteArray.ext
        simp
      have a1 := str_add HC1.out (by omega)
      have a2 := str_add HC2.out (by omega)
      have a3 := str_add HC3.out (by omega)
      have a4 := str_add HC4.out (by omega)
      have a5 := str_add HC5.out (by omega)
      have X0 := HB.out.c0
      have X1 := HB.out.c1
      have X2 := HB.out.c2
      have X3 := HB.out.c3
      have X4 := HB.out.c4
      have X5 := HB.out.c5
      have HLL : Hid (t.left.length = m) := HV.out.ll
      have HRL : Hid (t.right.length = m) := HV.out.rl
      have HHL : Hid (t.hgt.length = m) := HV.out.hl
      have Y1 := (HT2.out.l.get (i := x) (by rw [HLL.out]; exact hx)).2
      have Y2 := (HT2.out.r.get (i := x) (by rw [HRL.out]; exact hx)).2
      have Y3 := (HT2.out.h.get (i := x) (by rw [HHL.out]; exact hx)).2
      have E1 := (HT2.out.l.get (i := x) (by rw [HLL.out]; exact hx)).1
      have E2 := (HT2.out.r.get (i := x) (by rw [HRL.out]; exact hx)).1
      have E3 := (HT2.out.h.get (i := x) (by rw [HHL.out]; exact hx)).1
      rw [c6] at Y1
      rw [c7] at Y2
      rw [HHG.out] at Y3
      have HAGT : Hid (A.agg t = .agg #[.int .i64 t.lv, .slice A.l.o t.left.length A.l.c, .slice A.r.o t.right.length A.r.c, .slice A.p.o t.par.length A.p.c, .slice A.h.o t.hgt.length A.h.c, .slice A.s.o t.siz.length A.s.c]) := rfl
      rw [HAGT.out] at HIL HIR
      have t1 : ¬ (x : Int) < t.lv := by rw [HV.out.lv]; omega
      have t2 : decide ((x : Int) < t.lv) = false := decide_eq_false t1
      have u1 : (0 : Int) ≤ (x : Int) := by omega
      have u2 : (x : Int) < (t.left.length : Int) := by rw [HLL.out]; omega
      have u3 : (x : Int) < (t.right.length : Int) := by rw [HRL.out]; omega
      have u4 : (x : Int) < (t.hgt.length : Int) := by rw [HHL.out]; omega
      have HE1 := Lib.hid E1
      have HE2 := Lib.hid E2
      have HE3 := Lib.hid E3
      clear hlen htx hbt c1 c2 c6 c7 hlen2 s1 s2 s3 k1 k2 k3 z1 z2 z3 z4 E1 E2 E3 hxn HIH
      clear c0
      have c0 := X0
      go_enter Tryz.func73, Tryz.ntmps73
      go_wp2_with fail
      generalize hxe : w.heap.size = xb at *
      have HXE := Lib.hid hxe
      clear hxe
      generalize (w.alloc (.cells #[.int .i64 t.lv, .slice A.l.o t.left.length A.l.c, .slice A.r.o t.right.length A.r.c, .slice A.p.o t.par.length A.p.c, .slice A.h.o t.hgt.length A.h.c, .slice A.s.o t.siz.length A.s.c] 27)) = W at *
      clear c0 t1 t2
      rw [HE1.out] at X1 HIL HIR
      rw [HE2.out] at X2 HIL HIR
      rw [HE3.out] at X4 HIL HIR
      have x0 := cell_regrown X0
      have x1 := cell_regrown X1
      have x2 := cell_regrown X2
      have x3 := cell_regrown X3
      have x4 := cell_regrown X4
      have x5 := cell_regrown X5
      have y1 := cell_regrown Y1
      have y2 := cell_regrown Y2
      have y3 := cell_regrown Y3
      clear X0 X1 X2 X3 X4 X5 Y1 Y2 Y3
      refine wp_region_quiet_below (by kernel_rfl) (by kernel_rfl) ?_
      repeat (go_big_quiet_step (first
        | (go_at_call 73; first
            | (with_reducible exact Calls.regrown_of ((HIL.out _ (below_regrown _ _ _)).mono fun _ _ ⟨he, hb⟩ => ⟨he, hb⟩))
            | (with_reducible exact Calls.regrown_of ((HIR.out _ (below_regrown _ _ _)).mono fun _ _ ⟨he, hb⟩ => ⟨he, hb⟩)))
        | (go_at_call 108; exact Calls.regrown_of ((HID.out _).mono fun _ _ ⟨he, hb⟩ => ⟨he, hb⟩))))
      refine wpQuiet_nil ?_
      intro W2 hw2
      obtain ⟨⟨dq, osq⟩, hw3⟩ := hw2
      have hbg : Below W.heap.size W W2 := by rw [hw3]; exact below_regrown W dq osq
      have HBG := Lib.hid hbg
      clear hw3 hbg x0 x1 x2 x3 x4 x5 y1 y2 y3 a1 a2 a3 a4 a5
      go_wp2_with fail
      go_ret
      rw [HFIN.out]
      exact ⟨rfl, by have h := HW.out; rw [← HXE.out] at h; exact bel_then h HBG.out⟩

end Go.Proofs.YthacjealoomioaaGreatDoor

/- The reference of layer 22: Text. -/
namespace Go.Proofs.YthacjealoomioaaGreatDoor
set_option linter.unusedVariables false
set_option linter.unusedSimpArgs false
open Go.RowKit Go.Lib

theorem fTxt_tk {F : List BT} {i : Nat} (hi : i < F.length) : fTxt (F.take (i + 1)) = fTxt (F.take i) ++ (F[i].txt ++ [59]) := by
  unfold fTxt
  rw [List.take_add_one, List.getElem?_eq_getElem hi, List.flatMap_append]
  simp
theorem fTxt_tk_le {F : List BT} (i : Nat) : (fTxt (F.take i)).length ≤ (fTxt F).length := by
  have h : fTxt F = fTxt (F.take i) ++ fTxt (F.drop i) := by
    unfold fTxt
    rw [← List.flatMap_append, List.take_append_drop]
  rw [h, List.length_append]
  omega

set_option maxHeartbeats 8000000 in
set_option maxRecDepth 100000 in
theorem r22rtext_ok (w : World) (A : TA) (t : Tr) (ht : TreeAt w A t) (hmm : t.left.length ≤ 1000000) (h64 : Hgt64 t) : Calls Tryz.prog 45 #[A.agg t] w (RetB (txR (txtO t)) w) := by
  have HB := Lib.hid (TBox.new w A t)
  have HW := Lib.hid (bel_alloc w (.cells #[.int .i64 t.lv, .slice A.l.o t.left.length A.l.c, .slice A.r.o t.right.length A.r.c, .slice A.p.o t.par.length A.p.c, .slice A.h.o t.hgt.length A.h.c, .slice A.s.o t.siz.length A.s.c] 27))
  have HT2 := Lib.hid (ht.below HW.out)
  have H64 := Lib.hid h64
  have c0 := HB.out.c0
  have c1 := HB.out.c1
  have c2 := HB.out.c2
  have c3 := HB.out.c3
  have c4 := HB.out.c4
  have c5 := HB.out.c5
  clear ht h64
  show Calls _ _ #[.agg #[.int .i64 t.lv, .slice A.l.o t.left.length A.l.c, .slice A.r.o t.right.length A.r.c, .slice A.p.o t.par.length A.p.c, .slice A.h.o t.hgt.length A.h.c, .slice A.s.o t.siz.length A.s.c]] _ _
  go_enter Tryz.func45, Tryz.ntmps45
  go_wp2_with fail
  with_reducible refine (rvalid_ok _ A t HT2.out hmm).mono ?_
  rintro e w2 ⟨rfl, hb⟩
  have HW2 := Lib.hid (bel_then HW.out hb)
  have HB2 := Lib.hid (Blk.below HB.out hb (Blk.lt HB.out))
  have HT3 := Lib.hid (HT2.out.below hb)
  clear hb c0 c1 c2 c3 c4 c5
  cases hl : lsL t with
  | none =>
    have HR : Hid (txR (txtO t) = .tuple #[.string ⟨#[]⟩, .int .i64 2]) := by show _ = _; unfold txtO; rw [hl]; rfl
    rw [okV_none hl]
    clear hl
    go_wp2_with fail
    go_ret2
    exact ⟨by rw [HR.out]; rfl, HW2.out⟩
  | some ls =>
    obtain ⟨n, hn, hv⟩ := tv_of hl
    obtain ⟨m, hm⟩ : ∃ m, t.par.length = m := ⟨_, rfl⟩
    rw [hm] at hv
    have HRO : Hid (rootsO t = some (rootsL t n m ls)) := by show _ = _; rw [rootsO_some hl, hn, hm, Int.toNat_natCast]
    have HTX : Hid (txtO t = some (fTxt (frs t n m ls))) := txtO_tv hv
    have hcf := frs_cf hv (fun x hx => H64.out x (by rw [hv.hl]; exact hx))
    have hlen : (fTxt (frs t n m ls)).length ≤ 204800 := by
      have h1 := fTxt_len (frs t n m ls) (fun b hb => hcf.fit b hb)
      have h2 := hcf.lvs
      have h3 := hcf.n4
      omega
    have HV := Lib.hid hv
    have HRM : Hid (∀ i (hi : i < (rootsL t n m ls).length), (rootsL t n m ls)[i] < m) := fun i hi => ((roots_mem hv).1 (List.getElem_mem hi)).1
    have HRLE : Hid ((rootsL t n m ls).length ≤ 4096) := by show _ ≤ _; have := hv.count; have := hv.hn; omega
    rw [okV_some hl]
    have c0 := TBox.c0 HB2.out
    have c1 := TBox.c1 HB2.out
    have c2 := TBox.c2 HB2.out
    have c3 := TBox.c3 HB2.out
    have c4 := TBox.c4 HB2.out
    have c5 := TBox.c5 HB2.out
    clear hl hn hm hv hcf
    have hcon := rroots_ok w2 A t HT3.out hmm
    rw [HRO.out] at hcon
    go_wp2_with fail
    with_reducible refine hcon.mono ?_
    rintro e w3 hp
    obtain ⟨v3, rfl, hnr, hx3⟩ := hp.ok _ rfl
    obtain ⟨a3, k3, b3, rfl, hin, _⟩ := own_rowN hnr rfl
    have hb := hp.bel
    obtain ⟨RL, HRL⟩ : ∃ RL, Hid (rootsL t n m ls = RL) := ⟨_, rfl⟩
    rw [HRL.out] at hin HRM HRLE
    obtain ⟨R, HRR⟩ : ∃ R, Hid (RL.length = R) := ⟨_, rfl⟩
    have HIN := Lib.hid hin
    have HW3 := Lib.hid (bel_then HW2.out hb)
    have HB3 := Lib.hid (Blk.below HB2.out hb (Blk.lt HB2.out))
    have HT4 := Lib.hid (HT3.out.below hb)
    have hR4 : R ≤ 4096 := by rw [← HRR.out]; exact HRLE.out
    rw [HRL.out, HRR.out]
    obtain ⟨F, HF⟩ : ∃ F, Hid (frs t n m ls = F) := ⟨_, rfl⟩
    have HFE : Hid (F = RL.map (bt t n)) := by show _ = _; rw [← HF.out, ← HRL.out]; rfl
    have HFL : Hid (F.length = R) := by show _ = _; rw [HFE.out, List.length_map, HRR.out]
    rw [HF.out] at HTX hlen
    clear hp hnr hx3 hin hb hcon c0 c1 c2 c3 c4 c5 HB2 HT3 HW2
    go_wp2_with fail
    go_loopw [4, 6] (fun s4 s wr => ∃ i : Nat, i ≤ R ∧ s = .int .i64 (i : Int) ∧ s4 = .string ⟨(fTxt (F.take i)).toArray⟩ ∧ Below w3.heap.size w3 wr) (fun _ s _ => R - (intOf s).toNat)
    case atStart => exact ⟨0, Nat.zero_le _, rfl, by rw [List.take_zero]; rfl, Below.refl _ _⟩
    case round =>
      obtain ⟨i, hi, rfl, rfl, hbr⟩ := hrel
      have HBR := Lib.hid hbr
      have HBX := Lib.hid (Blk.below HB3.out hbr (Blk.lt HB3.out))
      have HTR := Lib.hid (HT4.out.below hbr)
      have HIR := Lib.hid (HIN.out.below hbr)
      clear hbr
      by_cases hiR : i < R
      · have hiF : i < F.length := by rw [HFL.out]; exact hiR
        have hiRL : i < RL.length := by rw [HRR.out]; exact hiR
        have hst := fTxt_tk hiF
        have hle := fTxt_tk_le (F := F) (i + 1)
        obtain ⟨r, hrv⟩ : ∃ r, RL[i]'hiRL = r := ⟨_, rfl⟩
        have HRV := Lib.hid hrv
        clear hrv
        have hrm : r < m := by rw [← HRV.out]; exact HRM.out i hiRL
        obtain ⟨TX, HTXV⟩ : ∃ s, Hid ((bt t n r).txt = s) := ⟨_, rfl⟩
        have HFI : Hid (F[i].txt = TX) := by
          show _ = _
          rw [← HTXV.out, ← HRV.out]
          have : F[i] = bt t n RL[i] := by
            have e := HFE.out
            subst e
            rw [List.getElem_map]
          rw [this]
        rw [HFI.out] at hst
        obtain ⟨P, HP⟩ : ∃ s, Hid (fTxt (F.take i) = s) := ⟨_, rfl⟩
        rw [HP.out] at hst ⊢
        rw [hst] at hle
        have hsz : P.length + TX.length + 1 ≤ 204800 := by simp only [List.length_append, List.length_singleton] at hle; omega
        have HST := Lib.hid hst
        have hTR := r22text_ok A t n m ls HV.out (fun x hx => H64.out x (by rw [HV.out.hl]; exact hx)) r hrm (by rw [HTXV.out]; omega)
        rw [HTXV.out] at hTR
        have HTRX := Lib.hid hTR
        obtain ⟨BP, HBP⟩ : ∃ B : ByteArray, Hid ((⟨P.toArray⟩ : ByteArray) = B) := ⟨_, rfl⟩
        obtain ⟨BT', HBT⟩ : ∃ B : ByteArray, Hid ((⟨TX.toArray⟩ : ByteArray) = B) := ⟨_, rfl⟩
        have s1 : BP.size = P.length := by rw [← HBP.out]; rfl
        have s2 : BT'.size = TX.length := by rw [← HBT.out]; rfl
        have k2 : (⟨#[59]⟩ : ByteArray).size = 1 := rfl
        obtain ⟨C1, HC1⟩ : ∃ C, Hid (BP ++ BT' = C) := ⟨_, rfl⟩
        have z1 : C1.size = P.length + TX.length := by rw [← HC1.out, ByteArray.size_append, s1, s2]
        obtain ⟨C2, HC2⟩ : ∃ C, Hid (C1 ++ (⟨#[59]⟩ : ByteArray) = C) := ⟨_, rfl⟩
        have a1 := str_add HC1.out (by omega)
        have a2 := str_add HC2.out (by omega)
        have HFIN : Hid ((⟨(fTxt (F.take (i + 1))).toArray⟩ : ByteArray) = C2) := by
          show _ = _
          rw [HST.out, ← HC2.out, ← HC1.out, ← HBP.out, ← HBT.out]
          apply ByteArray.ext
          simp
        rw [HBP.out]
        rw [HBT.out] at HTRX
        have X0 := TBox.c0 HBX.out
        have X1 := TBox.c1 HBX.out
        have X2 := TBox.c2 HBX.out
        have X3 := TBox.c3 HBX.out
        have X4 := TBox.c4 HBX.out
        have X5 := TBox.c5 HBX.out
        obtain rfl := HIR.out.adr (by omega)
        have Y1 := HIR.out.cell i (by omega)
        rw [Nat.zero_add, nI_at hiRL, List.getD_eq_getElem?_getD, List.getElem?_eq_getElem hiRL] at Y1
        simp only [Option.getD_some] at Y1
        rw [HRV.out] at Y1
        have t1 : (i : Int) < (R : Int) := by omega
        have t2 : (0 : Int) ≤ (i : Int) := by omega
        clear hst hle hTR s1 s2 k2 z1
        go_wp2_with fail
        have x0 := cell_regrown X0
        have x1 := cell_regrown X1
        have x2 := cell_regrown X2
        have x3 := cell_regrown X3
        have x4 := cell_regrown X4
        have x5 := cell_regrown X5
        have y1 := cell_regrown Y1
        clear X0 X1 X2 X3 X4 X5 Y1
        refine wp_region_quiet_below (by kernel_rfl) (by kernel_rfl) ?_
        repeat (go_big_quiet_step ((go_at_call 73; exact Calls.regrown_of ((HTRX.out _ (HTR.out.below (below_regrown _ _ _))).mono fun _ _ ⟨he, hb⟩ => ⟨he, hb⟩))))
        refine wpQuiet_nil ?_
        intro W2 hw2
        obtain ⟨⟨dq, osq⟩, hw3⟩ := hw2
        have hbg : Below wr.heap.size wr W2 := by rw [hw3]; exact below_regrown wr dq osq
        have HB9 := Lib.hid (HBR.out.trans (hbg.mono HBR.out.size))
        clear hw3 hbg x0 x1 x2 x3 x4 x5 y1 a1 a2
        go_wp2_with fail
        go_roundw
        case rel => exact ⟨i + 1, by omega, by go_num, by rw [HFIN.out], HB9.out⟩
        case measure => simp [intOf]; omega
      · obtain rfl : i = R := by omega
        have HTE : Hid (F.take i = F) := List.take_of_length_le (by rw [HFL.out]; exact Nat.le_refl _)
        have t1 : ¬ (i : Int) < (i : Int) := by omega
        rw [HTE.out]
        go_wp2_with fail
        go_ret2
        exact ⟨by rw [HTX.out]; rfl, bel_then HW3.out HBR.out⟩

end Go.Proofs.YthacjealoomioaaGreatDoor
