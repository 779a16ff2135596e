/- The reference of layer 20: Edge, the walk. -/
import Derived.Test.YtenhbfbfkcjimaaDoorZMgN
import Derived.Test.YtenhbfbfkcjimaaDoorZMgK
import Derived.Test.YtenhbfbfkcjimaaDoorZMgP
namespace Go.Proofs.YtenhbfbfkcjimaaDoor
set_option linter.unusedVariables false
set_option linter.unusedSimpArgs false
open Go.RowKit

theorem app_edge2 {B : Nat} {wr w6 : World} {o : Obj} {v v6 : Value} {L : List Ed} {x : Ed} {n : Nat} (hv : ∀ k, v.ownBlock = some k → B ≤ k) (hB : B ≤ wr.heap.size) (ho : w6.ownsRow 0 45 3 v6 (n + 1) (edCells L ++ [.int .i64 x.U, .int .i64 x.V, .int .i64 x.W])) (hg : (wr.alloc o).grownBy w6 v.ownBlock)
    (hn : ∀ k, v6.ownBlock = some k → v.ownBlock = some k ∨ (wr.alloc o).heap.size ≤ k) : w6.ownsRow 0 45 3 v6 (n + 1) (edCells (L ++ [x])) ∧ (∀ k, v6.ownBlock = some k → B ≤ k) ∧ Below B wr w6 := by
  refine ⟨by rw [edCells_app]; exact ho, fun k hk => ?_, ((Below.refl _ _).alloc hB o).trans (grown_below hg hv (by simp; omega))⟩
  rcases hn k hk with e | e
  · exact hv k e
  · simp at e; omega

/-- The list of picked edges while it grows. -/
structure PkI (B : Nat) (wr : World) (l : List Ed) (P : List Nat) (i : Nat) (v : Value) : Prop where
  own : wr.ownsRow 0 45 3 v i (edCells (pickE l (P.take i)))
  new : ∀ y, v.ownBlock = some y → B ≤ y

theorem PkI.start (B : Nat) (wr : World) (l : List Ed) (P : List Nat) : PkI B wr l P 0 (.slice none 0 0) :=
  ⟨World.ownsRow_nil _ _ _ _, fun y hy => by cases hy⟩
theorem PkI.below {B : Nat} {wr w' : World} {l : List Ed} {P : List Nat} {i : Nat} {v : Value} (h : PkI B wr l P i v) (hb : Below wr.heap.size wr w') : PkI B w' l P i v :=
  ⟨owns_mod h.own (Mod.of_below (F := fun _ => False) hb) (fun _ _ h => h), h.new⟩

theorem PkI.row {B : Nat} {wr : World} {l : List Ed} {P : List Nat} {i : Nat} {v : Value} (h : PkI B wr l P i v) (hi : i ≤ P.length) : ∃ ao cap b, v = .slice ao i cap ∧ ERow wr ao i b 0 (pickE l (P.take i)) ∧ (ao = none → cap = 0) ∧ ∀ k, v.ownBlock = some k → k = b := by
  have hl : (pickE l (P.take i)).length = i := by rw [pickE_len, List.length_take]; omega
  obtain ⟨ao, cap, b, e, he, hk⟩ := ERow.of_owns (l := pickE l (P.take i)) (by rw [hl]; exact h.own)
  rw [hl] at e he
  have hz := h.own
  rw [e] at hz
  exact ⟨ao, cap, b, e, he, owns_nilcap hz, hk⟩

set_option maxHeartbeats 16000000 in
set_option maxRecDepth 100000 in
theorem redge_ok (w : World) (f g n : Nat) (l : List Ed) (h : R2Obj w f g n l) (hg : GOk n l) (u v : Int) :
    Calls Tryd.prog 24 #[.pointer (some ⟨f, 0, none⟩), .int .i64 u, .int .i64 v] w (RetB (comR (edV n l u v)) w) := by
  have HR := Lib.hid h
  have HG := Lib.hid hg
  have f0 := h.f.cell (i := 0) rfl
  have hl4 := hg.hl
  have hn4 := hg.hn
  clear h hg
  have HOUT : Hid (¬ ((0 ≤ u ∧ u < n) ∧ (0 ≤ v ∧ v < n) ∧ u ≠ v) → comR (edV n l u v) = .tuple #[.int .i64 0, .bool false]) := fun hc => by
    unfold edV mV
    rw [if_neg hc]
    rfl
  by_cases hu : 0 ≤ u ∧ u < n
  · have HU : Hid (inB u n = true) := by show _ = _; unfold inB; simp; omega
    by_cases hv : 0 ≤ v ∧ v < n
    · have HV : Hid (inB v n = true) := by show _ = _; unfold inB; simp; omega
      by_cases huv : u = v
      · have HM := Lib.hid (HOUT.out (fun h => h.2.2 huv))
        subst huv
        have t1 : (u == u) = true := by simp
        clear hu hv HOUT
        go_enter Tryd.func24, Tryd.ntmps24
        go_wp2_with fail
        with_reducible refine (r2has_ok w f g n l HR.out u).mono ?_
        rintro e w1 ⟨rfl, rfl⟩
        rw [HU.out]
        go_wp2_with fail
        with_reducible refine (r2has_ok w f g n l HR.out u).mono ?_
        rintro e w1 ⟨rfl, rfl⟩
        rw [HU.out]
        go_wp2_with fail
        go_ret2
        exact ⟨by rw [HM.out]; rfl, Below.refl _ _⟩
      · have t1 : (u == v) = false := by simp [huv]
        obtain ⟨ua, rfl⟩ := Int.eq_ofNat_of_zero_le hu.1
        obtain ⟨vb, rfl⟩ := Int.eq_ofNat_of_zero_le hv.1
        have ha : ua < n := by omega
        have hb : vb < n := by omega
        have hne : ua ≠ vb := by omega
        clear hu hv huv HOUT
        have HHIT : Hid (∀ i, i < l.length → (foTo n l i).k.getD ua 0 ≠ (foTo n l i).k.getD vb 0 → (foTo n l (i + 1)).k.getD ua 0 = (foTo n l (i + 1)).k.getD vb 0 → edV n l ua vb = some ((ordL l).getD i 0)) := fun i hi h0 h1 => edge_hit HG.out ha hb hne hi h0 h1
        have HNO : Hid ((foTo n l l.length).k.getD ua 0 ≠ (foTo n l l.length).k.getD vb 0 → edV n l ua vb = none) := fun h0 => edge_none HG.out ha hb hne h0
        have HST : Hid ((foTo n l 0).k.getD ua 0 ≠ (foTo n l 0).k.getD vb 0) := by
          show (List.range n).getD ua 0 ≠ (List.range n).getD vb 0
          rw [List.getD_eq_getElem?_getD, List.getD_eq_getElem?_getD, List.getElem?_range ha, List.getElem?_range hb]
          exact hne
        go_enter Tryd.func24, Tryd.ntmps24
        go_wp2_with fail
        with_reducible refine (r2has_ok w f g n l HR.out ua).mono ?_
        rintro e w1 ⟨rfl, rfl⟩
        rw [HU.out]
        go_wp2_with fail
        with_reducible refine (r2has_ok w f g n l HR.out vb).mono ?_
        rintro e w1 ⟨rfl, rfl⟩
        rw [HV.out]
        go_wp2_with fail
        with_reducible refine (redges_ok w g n l HR.out.g hl4).mono ?_
        rintro e w2 ⟨⟨ao, cap, b, rfl, her, _, _⟩, hb2⟩
        have HB2 := Lib.hid hb2
        have HE2 := Lib.hid her
        have HR2 := Lib.hid (HR.out.below hb2)
        clear her hb2 t1 HR f0 HU HV
        obtain ⟨m, hm⟩ : ∃ m, l.length = m := ⟨_, rfl⟩
        rw [hm] at hl4 HHIT HNO HE2
        rw [hm]
        go_wp2_with fail
        with_reducible refine (rorder_ok w2 ao m cap b 0 l HE2.out hl4).mono ?_
        rintro e w3 ⟨vo, rfl, hnr⟩
        obtain ⟨oa, oc, ob, rfl, hro, _⟩ := own_rowN hnr.own ((ord_length l).trans hm)
        have HB3 := Lib.hid (bel_then HB2.out hnr.bel)
        have HO3 := Lib.hid hro
        have HE3 := Lib.hid (HE2.out.below hnr.bel)
        have HR3 := Lib.hid (HR2.out.below hnr.bel)
        clear hnr hro HE2 HR2
        have HOL : Hid ((ordL l).length = m) := (ord_length l).trans hm
        have HM := Lib.hid hm
        clear hm
        go_wp2_with fail
        go_loopw [10, 11] (fun s10 s11 wr => ∃ i : Nat, i ≤ m ∧ s11 = .int .i64 i ∧ PkI w3.heap.size wr l (ordL l) i s10 ∧ (foTo n l i).k.getD ua 0 ≠ (foTo n l i).k.getD vb 0 ∧ Below w3.heap.size w3 wr) (fun _ s _ => m - (intOf s).toNat)
        case atStart => exact ⟨0, Nat.zero_le _, rfl, PkI.start _ _ _ _, HST.out, Below.refl _ _⟩
        case round =>
          obtain ⟨i, hi, rfl, hpk, hnj, hbr⟩ := hrel
          have HPK := Lib.hid hpk
          have HNJ := Lib.hid hnj
          have HBR := Lib.hid hbr
          clear hpk hnj hbr HST
          by_cases him : i < m
          · have HHI := Lib.hid (HHIT.out i him HNJ.out)
            have hx : (ordL l).getD i 0 < m := by rw [← HM.out]; exact ord_lt (getD_mem (by rw [HOL.out]; exact him))
            have HTK : Hid ((ordL l).take (i + 1) = (ordL l).take i ++ [(ordL l).getD i 0]) := take_snocN (by rw [HOL.out]; exact him)
            have HOR := Lib.hid (HO3.out.below HBR.out)
            have HER := Lib.hid (HE3.out.below HBR.out)
            have HRR := Lib.hid (HR3.out.below HBR.out)
            have o1 := HOR.out.cell i him
            rw [nI_at (by rw [HOL.out]; exact him), Nat.zero_add] at o1
            have hadr := HOR.out.adr (by omega)
            subst hadr
            obtain ⟨x, hxx⟩ : ∃ x, (ordL l).getD i 0 = x := ⟨_, rfl⟩
            rw [hxx] at HHI hx HTK o1
            have HXX := Lib.hid hxx
            clear hxx
            obtain ⟨d0, d1, d2⟩ := HER.out.cell x hx
            rw [Nat.zero_add] at d0 d1 d2
            have hadr := HER.out.adr (by omega)
            subst hadr
            obtain ⟨E, hE⟩ : ∃ E, EA l x = E := ⟨_, rfl⟩
            rw [hE] at d0 d1 d2
            have HEE := Lib.hid hE
            clear hE
            obtain ⟨eu, ev, ew⟩ := E
            simp only at d0 d1 d2
            have t1 : (i : Int) < (m : Int) := by omega
            have t2 : (0 : Int) ≤ (i : Int) := by omega
            have t3 : (x : Int) < (m : Int) := by omega
            have t4 : (0 : Int) ≤ (x : Int) := by omega
            obtain ⟨pa, pc, pb, rfl, _, _, _⟩ := HPK.out.row (by rw [HOL.out]; exact hi)
            have HOW := Lib.hid (HPK.out.own.alloc (.cells #[.int .i64 eu, .int .i64 ev, .int .i64 ew] 45))
            have HNW := Lib.hid (news_new wr 45 [.int .i64 eu, .int .i64 ev, .int .i64 ew])
            go_wp2_with (at_builtin; apply keepIt)
            apply Lib.hid
            refine wpList_appendB 45 (.agg #[.int .i64 0, .int .i64 0, .int .i64 0]) 3 24 Tryd.underlying22 Tryd.infoEdge rfl (by decide) _ i _ rfl HOW.out ⟨wr.heap.size, 0, none⟩ 1 1 [.int .i64 eu, .int .i64 ev, .int .i64 ew] rfl rfl HNW.out (by simp [Value.oneCell']) (by unfold maxLen; omega) (by omega) ?_
            intro v6 w6 ho6 hg6 hn6
            obtain ⟨a1, a2, a3⟩ := app_edge2 (x := ⟨eu, ev, ew⟩) HPK.out.new HBR.out.size ho6 hg6 hn6
            rw [← HEE.out, ← pickE_snoc, ← HTK.out] at a1
            have HP6 : Hid (PkI w3.heap.size w6 l (ordL l) (i + 1) v6) := ⟨a1, a2⟩
            have HB6 := Lib.hid (HBR.out.trans a3)
            have HR6 := Lib.hid (HR3.out.below HB6.out)
            have HO6 := Lib.hid (HO3.out.below HB6.out)
            obtain ⟨pa2, pc2, pb2, rfl, hp2, hp3, _⟩ := HP6.out.row (by rw [HOL.out]; omega)
            have HP2 := Lib.hid hp2
            have HP3 := Lib.hid hp3
            clear a1 a2 a3 ho6 hg6 hn6 HOW HNW HPK HER d0 d1 d2 o1 HOR HRR hp2 hp3
            have f0 := HR6.out.f.cell (i := 0) rfl
            have HOKP : Hid (GOk n (pickE l ((ordL l).take (i + 1)))) := pick_ok HG.out (fun y hy => ord_lt (List.mem_of_mem_take hy)) (by rw [List.length_take, HOL.out]; omega)
            obtain ⟨im, him2⟩ : ∃ im, i + 1 = im := ⟨_, rfl⟩
            have hML : im ≤ 9223372036854775807 := by omega
            rw [him2] at HP2 HOKP HP6
            have HIM := Lib.hid him2
            rw [him2]
            clear him2
            go_wp2_with fail
            with_reducible refine (rcount_ok w6 g n l HR6.out.g).mono ?_
            rintro e w7 ⟨rfl, rfl⟩
            go_wp2_with fail
            with_reducible refine (rnew_ok w6 n pa2 im pc2 pb2 0 _ HP2.out hML HP3.out (by omega)).mono ?_
            rintro e w7 ⟨⟨p, rfl, _, hok⟩, hb7⟩
            obtain ⟨g2, rfl, hg2⟩ := hok HOKP.out.err
            rw [HOKP.out.err]
            rw [Int.toNat_natCast] at hg2
            have HG2 := Lib.hid hg2
            have HB7 := Lib.hid (HB6.out.trans (hb7.mono HB6.out.size))
            have HP7 := Lib.hid (HP6.out.below hb7)
            clear hok hb7 hg2 HP2 HP6 HR6 f0
            go_wp2_with fail
            with_reducible refine (rlabels_ok w7 g2 n _ HG2.out HOKP.out).mono ?_
            rintro e w8 ⟨⟨K, val, rfl, hK, hown, hnew⟩, hb8⟩
            have HB8 := Lib.hid (HB7.out.trans (hb8.mono HB7.out.size))
            have HP8 := Lib.hid (HP7.out.below hb8)
            have hKl := hK.len
            have hKK : K = (foTo n l im).k := by
              rw [← HIM.out] at hK ⊢
              exact pick_lab HG.out (by rw [HM.out]; omega) hK
            subst hKK
            obtain ⟨gb, gc, rfl, _⟩ := owns_form hown (show 0 < n by omega)
            have q0 := (ownN hown hKl ha).1
            have q1 := (ownN hown hKl hb).1
            have HO8 := Lib.hid (HO3.out.below HB8.out)
            clear hK hown hnew hb8 hKl HG2 HP7 HB7
            rw [HIM.out] at HHI
            obtain ⟨ka, hka⟩ : ∃ z, (foTo n l im).k.getD ua 0 = z := ⟨_, rfl⟩
            obtain ⟨kb, hkb⟩ : ∃ z, (foTo n l im).k.getD vb 0 = z := ⟨_, rfl⟩
            rw [hka] at q0
            rw [hkb] at q1
            have HKA := Lib.hid hka
            have HKB := Lib.hid hkb
            clear hka hkb
            have t5 : (ua : Int) < (n : Int) := by omega
            have t6 : (vb : Int) < (n : Int) := by omega
            have t7 : (0 : Int) ≤ (ua : Int) := by omega
            have t8 : (0 : Int) ≤ (vb : Int) := by omega
            clear ha hb
            by_cases e : ka = kb
            · have t9 : ((ka : Int) == (kb : Int)) = true := by simp [e]
              have HRS : Hid (edV n l ua vb = some x) := HHI.out (by rw [HKA.out, HKB.out, e])
              clear e HHI
              have o1 := HO8.out.cell i him
              rw [nI_at (by rw [HOL.out]; exact him), HXX.out, Nat.zero_add] at o1
              clear him
              go_wp2_with fail
              go_quiet (fail)
              replace o1 : (w8.drewN nq).cell? ⟨ob, i, none⟩ = some (.int .i64 (x : Int)) := o1
              go_wp2_with fail
              go_ret2
              exact ⟨by rw [HRS.out]; rfl, bel_drewN (bel_then HB3.out HB8.out) _⟩
            · have t9 : ((ka : Int) == (kb : Int)) = false := by simp; omega
              have HNJ2 : Hid ((foTo n l im).k.getD ua 0 ≠ (foTo n l im).k.getD vb 0) := by show _ ≠ _; rw [HKA.out, HKB.out]; exact e
              clear e HHI
              have hi2 : i + 1 ≤ m := by omega
              clear him
              go_wp2_with fail
              go_quiet (fail)
              go_wp2_with fail
              go_roundw
              case rel => exact ⟨im, by have := HIM.out; omega, by have := HIM.out; go_num, HP8.out.below (bel_drewN (Below.refl _ _) _), HNJ2.out, bel_drewN HB8.out _⟩
              case measure => simp [intOf]; have := HIM.out; omega
          · obtain rfl : i = m := by omega
            have HRS : Hid (edV n l ua vb = none) := HNO.out HNJ.out
            go_wp2_with fail
            go_ret2
            exact ⟨by rw [HRS.out]; rfl, bel_then HB3.out HBR.out⟩
    · have HV : Hid (inB v n = false) := by show _ = _; unfold inB; simp; omega
      have HM := Lib.hid (HOUT.out (fun h => hv h.2.1))
      clear hu hv HOUT
      go_enter Tryd.func24, Tryd.ntmps24
      go_wp2_with fail
      with_reducible refine (r2has_ok w f g n l HR.out u).mono ?_
      rintro e w1 ⟨rfl, rfl⟩
      rw [HU.out]
      go_wp2_with fail
      with_reducible refine (r2has_ok w f g n l HR.out v).mono ?_
      rintro e w1 ⟨rfl, rfl⟩
      rw [HV.out]
      go_wp2_with fail
      go_ret2
      exact ⟨by rw [HM.out]; rfl, Below.refl _ _⟩
  · have HU : Hid (inB u n = false) := by show _ = _; unfold inB; simp; omega
    have HM := Lib.hid (HOUT.out (fun h => hu h.1))
    clear hu HOUT
    go_enter Tryd.func24, Tryd.ntmps24
    go_wp2_with fail
    with_reducible refine (r2has_ok w f g n l HR.out u).mono ?_
    rintro e w1 ⟨rfl, rfl⟩
    rw [HU.out]
    go_wp2_with fail
    go_ret2
    exact ⟨by rw [HM.out]; rfl, Below.refl _ _⟩

end Go.Proofs.YtenhbfbfkcjimaaDoor
