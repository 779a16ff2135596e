/- ExpirySets: the walk. -/
import Derived.Test.YtebclbpibafkdaaSetsP
namespace Go.Proofs.Ytebclbpibafkdaa
set_option linter.unusedVariables false
set_option linter.unusedSimpArgs false
open Go.RowKit

set_option maxHeartbeats 4000000 in
set_option maxRecDepth 100000 in
theorem sets_long (ao : Option Addr) (len cap : Nat) (x y : Int) (w : World) (hl : len = 0 ∨ 300 < len) (hm : len ≤ 9223372036854775807) :
    Calls Try.prog 11 #[.slice ao len cap, .int .u16 x, .int .i64 y] w (RetB (.bool true) w) := by
  rcases hl with rfl | hl
  · go_enter Try.func11, Try.ntmps11
    go_wp2_with fail
    with_reducible refine (works35 _).mono ?_
    rintro e w' ⟨rfl, hb⟩
    have HB := Lib.hid hb
    clear hb
    go_wp2_with fail
    go_ret
    exact ⟨rfl, HB.out⟩
  · have h0 : ((len : Int) == 0) = false := beq_eq_false_iff_ne.2 (by omega)
    go_enter Try.func11, Try.ntmps11
    go_wp2_with fail
    with_reducible refine (works35 _).mono ?_
    rintro e w' ⟨rfl, hb⟩
    have HB := Lib.hid hb
    clear hb
    go_wp2_with fail
    go_ret
    exact ⟨rfl, HB.out⟩

set_option maxHeartbeats 8000000 in
set_option maxRecDepth 100000 in
theorem sets_short (ao : Option Addr) (len cap b off : Nat) (z : List Int) (wh k : Nat) (at' : Int) (w : World) (hz : InRow .i64 w ao len b off z) (hl : len ≤ 300) (hw : wh ≤ 65535)
    (hk0 : ((wh : Int) % (len : Int)) = (k : Int)) (hk : k < len) (hat : I64 at') (hzz : ∀ x ∈ z, I64 x) :
    Calls Try.prog 11 #[.slice ao len cap, .int .u16 wh, .int .i64 at'] w (RetB (.bool true) w) := by
  have HZ := Lib.hid hz
  have HAT := Lib.hid hat
  have HZZ := Lib.hid hzz
  obtain rfl := hz.adr (by omega)
  clear hz hat hzz
  have hd300 : decide (300 < (len : Int)) = false := by simp; omega
  have hd0 : ((len : Int) == 0) = false := beq_eq_false_iff_ne.2 (by omega)
  go_enter Try.func11, Try.ntmps11
  go_wp2_with fail
  rw [hk0]
  clear hk0 hd300 hd0
  with_reducible refine (filled35 _ len cap b off z false w HZ.out hl).mono ?_
  rintro e w1 ⟨s, q, g, hf, rfl⟩
  have F := Lib.hid hf
  clear hf
  go_wp2_with fail
  with_reducible refine (filled35 _ len cap b off z true w1 (HZ.out.below F.out.bel) hl).mono ?_
  rintro e w2 ⟨t, r, gt, hf, rfl⟩
  have T2 := Lib.hid (Two.start F.out hf)
  have hLl : (sortE (pairs z)).length = len := by rw [sortE_pairs_length, HZ.out.size]
  have HL := Lib.hid hLl
  have hzl := HZ.out.size
  have HKM := Lib.hid (mem_sortP.2 ⟨k, by omega, rfl⟩ : ((k : Int), z.getD k 0) ∈ sortE (pairs z))
  have HSK : Hid (∀ e ∈ sortE (pairs z), I64 e.2) := by
    intro e he
    obtain ⟨i, hi, rfl⟩ := mem_sortP.1 he
    exact HZZ.out _ (by rw [List.getD_eq_getElem?_getD, List.getElem?_eq_getElem hi]; exact List.getElem_mem _)
  have hcell := HZ.out.cell k hk
  have hlw := HZ.out.lt (by omega)
  clear hf F hLl hzl HZZ
  generalize sortE (pairs z) = S at T2 HL HKM HSK
  generalize z.getD k 0 = tk at hcell HKM
  have HC : Hid (w.cell? ⟨b, off + k, none⟩ = some (.int .i64 tk)) := Lib.hid hcell
  clear hcell HZ
  go_wp2_with fail
  with_reducible refine (eset_okI w2 s 300 S q g T2.out.a.obj _ at' k rfl (by omega)).mono ?_
  rintro e w3 ⟨rfl, g3, ho, hm, hf⟩
  have T3 := Lib.hid (T2.out.step ho hm hf)
  have c3 := (T3.out.a.bel.cell (p := ⟨b, off + k, none⟩) hlw).trans HC.out
  clear ho hm hf T2
  go_wp2_with fail
  with_reducible refine (eset_okI w3 s 300 _ q g3 T3.out.a.obj _ tk k rfl (by omega)).mono ?_
  rintro e w4 ⟨rfl, g4, ho, hm, hf⟩
  have T4 := Lib.hid (T3.out.step ho hm hf)
  clear ho hm hf T3 c3
  go_wp2_with fail
  with_reducible refine (eset_okI w4 s 300 _ q g4 T4.out.a.obj _ at' k rfl (by omega)).mono ?_
  rintro e w5 ⟨rfl, g5, ho, hm, hf⟩
  have T5 := T4.out.step ho hm hf
  rw [sets_three] at T5
  have T5 := Lib.hid T5.swap
  clear ho hm hf T4
  go_wp2_with fail
  with_reducible refine (edrop_some w5 t 300 S r gt T5.out.a.obj k (by omega) tk HKM.out).mono ?_
  rintro e w6 ⟨rfl, g6, ho, hm, hf⟩
  have HDL := Lib.hid (del_len T5.out.a.obj.obj.nodupI HKM.out)
  have T6 := Lib.hid (T5.out.step ho hm hf)
  clear ho hm hf T5
  go_wp2_with fail
  with_reducible refine (edrop_none w6 t 300 _ r g6 T6.out.a.obj k (by omega) not_mem_del).mono ?_
  rintro e w7 ⟨rfl, hb7⟩
  have T7 := Lib.hid (T6.out.below hb7)
  clear hb7 T6
  have hdl : (del (k : Int) S).length = len - 1 := by have := HDL.out; have := HL.out; omega
  have hdli : (((del (k : Int) S).length : Nat) : Int) = (len : Int) - 1 := by omega
  have HDLI := Lib.hid hdli
  clear hdl hdli
  go_wp2_with fail
  with_reducible refine (elen_ok w7 t 300 _ r g6 T7.out.a.obj).mono ?_
  rintro e w' ⟨rfl, rfl⟩
  rw [HDLI.out]
  go_wp2_with fail
  with_reducible refine (eset_okI w7 t 300 _ r g6 T7.out.a.obj _ at' k rfl (by omega)).mono ?_
  rintro e w8 ⟨rfl, g8, ho, hm, hf⟩
  have T8 := T7.out.step ho hm hf
  rw [sets_two] at T8
  have T8 := Lib.hid T8.swap
  clear ho hm hf T7
  have hAl : (ins ((k : Int), at') (del (k : Int) S)).length = len := by rw [ins_length]; have := HDL.out; have := HL.out; omega
  have HAL := Lib.hid hAl
  have HAM : Hid (((k : Int), at') ∈ ins ((k : Int), at') (del (k : Int) S)) := mem_ins.2 (.inl rfl)
  have HAK : Hid (∀ e ∈ ins ((k : Int), at') (del (k : Int) S), e.2 ≤ 9223372036854775807) := by
    intro e he
    rcases mem_ins.1 he with rfl | he
    · exact HAT.out.2
    · unfold del at he; exact (HSK.out e (List.mem_filter.1 he).1).2
  clear hAl HKM HSK HDLI HDL HL
  generalize ins ((k : Int), at') (del (k : Int) S) = A at *
  go_wp2_with fail
  with_reducible refine (elen_ok w8 s 300 A q g5 T8.out.a.obj).mono ?_
  rintro e w' ⟨rfl, rfl⟩
  rw [HAL.out]
  go_wp2_with fail
  with_reducible refine (elen_ok w8 t 300 A r g8 T8.out.b.obj).mono ?_
  rintro e w' ⟨rfl, rfl⟩
  rw [HAL.out]
  go_wp2_with fail
  with_reducible refine (ecopy_ok w8 s 300 A q g5 T8.out.a.obj).mono ?_
  rintro e w9 ⟨u, p, gu, hfu, rfl⟩
  have T9 : Hid (Three w u A p gu s A q g5 t A r g8 w9) := by
    have x := T8.out.below hfu.bel
    exact ⟨hfu.rebase T8.out.a.bel, x.a, x.b, (apart_new T8.out.a.obj hfu).symm, (apart_new T8.out.b.obj hfu).symm, x.ap⟩
  clear hfu T8
  go_wp2_with fail
  with_reducible refine (edrop_some w9 u 300 A p gu T9.out.a.obj k (by omega) at' HAM.out).mono ?_
  rintro e w10 ⟨rfl, g10, ho, hm, hf⟩
  have HDA := Lib.hid (del_len T9.out.a.obj.obj.nodupI HAM.out)
  have T10 := Lib.hid (T9.out.step ho hm hf).rot
  clear ho hm hf T9
  go_wp2_with fail
  with_reducible refine (edue_ok w10 s 300 A q g5 T10.out.a.obj 9223372036854775807).mono ?_
  rintro e w11 ⟨v11, g11, rfl, ho, hrow, hm, hf, hv⟩
  have T11 := Lib.hid (T10.out.step ho hm hf).rot
  have R11 := RowN.due (dueN_le A _) hrow hv
  rw [dueN_all HAK.out, List.take_length] at R11
  obtain ⟨o11, c11, hv11⟩ := owns_slice R11.own
  subst hv11
  have HS10 : Hid (∀ k, (g8.foot k ∨ k = t) → k < w10.heap.size) := T10.out.b.obj.lt
  have HS10u : Hid (∀ k, (g10.foot k ∨ k = u) → k < w10.heap.size) := T10.out.c.obj.lt
  have R11 := Lib.hid R11
  have hAl2 : (A.map (·.1)).length = len := by rw [List.length_map, HAL.out]
  have HAL2 := Lib.hid hAl2
  have HFD := Lib.hid (fst_del (k : Int) A)
  rw [hAl2]
  clear ho hm hf hrow hv T10 hAl2
  have HDD : Hid ((del (k : Int) A).length = len - 1) := by have := HDA.out; have := HAL.out; exact Lib.hid (by omega)
  have HDK : Hid (∀ e ∈ del (k : Int) A, e.2 ≤ 9223372036854775807) := fun e he => by unfold del at he; exact HAK.out e (List.mem_filter.1 he).1
  have HRT : Hid ((A.take (dueN A 9223372036854775807)).map (·.1) = A.map (·.1)) := Lib.hid (by rw [dueN_all HAK.out, List.take_length])
  have HRU : Hid (((del (k : Int) A).take (dueN (del (k : Int) A) 9223372036854775807)).map (·.1) = (A.map (·.1)).filter (fun x => x != (k : Int))) := Lib.hid (by rw [dueN_all HDK.out, List.take_length, HFD.out])
  have HFL : Hid (((A.map (·.1)).filter (fun x => x != (k : Int))).length = len - 1) := Lib.hid (by rw [← HFD.out, List.length_map]; exact HDD.out)
  clear HFD HDA HAK HAM HDK HDD HAT
  obtain ⟨al, hal⟩ : ∃ al, al = A.map (·.1) := ⟨_, rfl⟩
  rw [← hal] at R11 HAL2 HRT HRU HFL
  clear hal
  go_wp2_with fail
  go_loopw [11, 114] (fun s11 s114 wr => ∃ i : Nat, i ≤ len ∧ s114 = .int .i64 i ∧ INewRow w11 ((al.take i).filter (fun x => x != (k : Int))) s11 wr) (fun _ s114 _ => len - (intOf s114).toNat)
  case atStart => exact ⟨0, by omega, rfl, ⟨⟨World.ownsRow_nil _ _ _ _, by simp [Value.ownBlock]⟩, Below.refl _ _⟩⟩
  case round =>
    obtain ⟨i, hi, rfl, hr⟩ := hrel
    have R := R11.out.below hr.bel
    have HR := Lib.hid hr
    obtain ⟨oo, oc, rfl⟩ := owns_slice hr.row.own
    clear hr
    by_cases hlt : i < len
    · have hal := HAL2.out
      obtain ⟨ao', cap', b', hv', hin, hcp⟩ := InRow.of_owns R.own
      injection hv' with e1 e2 e3
      subst e1; subst e3
      obtain rfl := hin.adr (by omega)
      have hc := hin.cell i (by omega)
      rw [Nat.zero_add] at hc
      obtain ⟨hcp1, hcp2⟩ := hcp (by omega)
      rw [hal] at hcp1
      unfold maxLen at hcp2
      have hts := take_succ_getD al i (by omega)
      clear R hin hcp e2 hal
      generalize al.getD i 0 = x at hc hts
      have hlf : ((al.take i).filter (fun x => x != (k : Int))).length ≤ 300 := Nat.le_trans (List.length_filter_le _ _) (by rw [List.length_take]; omega)
      by_cases hx : x = (k : Int)
      · have hn : (al.take (i + 1)).filter (fun x => x != (k : Int)) = (al.take i).filter (fun x => x != (k : Int)) := by rw [hts, List.filter_append]; simp [hx]
        have HN := Lib.hid hn
        have t1 : (x != (k : Int)) = false := by simp [hx]
        clear hx hn hts
        go_wp2_with fail
        go_roundw
        case rel => exact ⟨i + 1, by omega, by go_num, by rw [HN.out]; exact HR.out⟩
        case measure => simp [intOf]; omega
      · have hn : (al.take (i + 1)).filter (fun x => x != (k : Int)) = (al.take i).filter (fun x => x != (k : Int)) ++ [x] := by rw [hts, List.filter_append]; simp [hx]
        have HN := Lib.hid hn
        have t1 : (x != (k : Int)) = true := by simp [hx]
        clear hx hn hts
        generalize (al.take i).filter (fun x => x != (k : Int)) = fl at *
        have hb2 : Below wr.heap.size wr (wr.alloc (.cells #[.int .i64 x] 3)) := (Below.refl _ _).alloc (Nat.le_refl _) _
        have HB2 := Lib.hid hb2
        have hnews := Lib.hid (news_new wr 3 [.int .i64 x])
        have hown := Lib.hid (HR.out.row.below hb2).own
        clear hb2
        go_wp2_with (at_builtin; apply keepIt)
        apply Lib.hid
        refine wpList_appendB 3 (.int .i64 0) 1 8 Try.underlying40 Try.infoInt rfl (by decide) (.slice oo fl.length oc) fl.length _ rfl hown.out ⟨wr.heap.size, 0, none⟩ 1 1 [.int .i64 x] rfl rfl hnews.out (by simp [Value.oneCell']) (by unfold maxLen; omega) (by omega) ?_
        intro v' w2 ho hg hk2
        have HR2 := Lib.hid (HR.out.more HB2.out ho hg hk2)
        clear ho hg hk2 hown hnews HB2 hc
        go_wp2_with fail
        go_roundw
        case rel => exact ⟨i + 1, by omega, by go_num, by rw [HN.out]; exact HR2.out⟩
        case measure => simp [intOf]; omega
    · obtain rfl : i = len := by omega
      have hat : al.take i = al := List.take_of_length_le (by rw [HAL2.out]; omega)
      rw [hat] at HR
      have R12 := Lib.hid R
      have T12 := Lib.hid (T11.out.below HR.out.bel)
      have HSZ := Lib.hid HR.out.bel.size
      have hfl := HFL.out
      rw [hat, hfl]
      have hali : al.length ≤ 1000000 := by rw [HAL2.out]; omega
      have HO12 := Lib.hid HR.out.row
      have HW11 : Hid (∀ k, (g8.foot k ∨ k = t) → k < w11.heap.size) := T11.out.a.obj.lt
      have HW11u : Hid (∀ k, (g10.foot k ∨ k = u) → k < w11.heap.size) := T11.out.b.obj.lt
      clear R hat T11
      have hfl2 : (al.filter (fun x => x != (k : Int))).length ≤ 1000000 := by rw [hfl]; omega
      have HFLE := Lib.hid hfl
      clear hfl
      obtain ⟨fl, hfle⟩ : ∃ fl, fl = al.filter (fun x => x != (k : Int)) := ⟨_, rfl⟩
      rw [← hfle] at HO12 HRU hfl2 HFLE
      clear hfle HFL HR
      have hsm : sameB al al = true := by simp [sameB]
      have hsm2 : sameB fl fl = true := by simp [sameB]
      have HSM := Lib.hid hsm
      have HSM2 := Lib.hid hsm2
      clear hsm hsm2
      go_wp2_with fail
      with_reducible refine (edue_ok wr t 300 A r g8 T12.out.a.obj 9223372036854775807).mono ?_
      rintro e w13 ⟨v13, g13, rfl, ho, hrow, hm, hf, hv⟩
      have T13 := Lib.hid (T12.out.step ho hm hf).rot
      have R13 := Lib.hid (R12.out.mod hm (fun k hk => HS10.out k (.inl hk)))
      have O13 := Lib.hid (HO12.out.mod hm (fun k hk => HW11.out k (.inl hk)))
      have Q13 := RowN.due (dueN_le A _) hrow hv
      rw [HRT.out] at Q13
      have Q13 := Lib.hid Q13
      clear ho hm hf hrow hv T12 R12 HO12
      go_wp2_with fail
      have hs13 := R13.out.sl
      rw [HAL2.out] at hs13
      with_reducible refine (same35 w13 _ v13 _ _ hs13 Q13.out.sl hali hali).mono ?_
      clear hs13
      rintro e w14 ⟨rfl, hb14⟩
      rw [HSM.out]
      have T14 := Lib.hid (T13.out.below hb14)
      have O14 := Lib.hid (O13.out.below hb14)
      clear hb14 T13 O13 R13 Q13
      go_wp2_with fail
      with_reducible refine (edue_ok w14 u 300 _ p g10 T14.out.a.obj 9223372036854775807).mono ?_
      rintro e w15 ⟨v15, g15, rfl, ho, hrow, hm, hf, hv⟩
      have T15 := Lib.hid (T14.out.step ho hm hf)
      have O15 := Lib.hid (O14.out.mod hm (fun k hk => HW11u.out k (.inl hk)))
      have Q15 := RowN.due (dueN_le _ _) hrow hv
      rw [HRU.out] at Q15
      have Q15 := Lib.hid Q15
      clear ho hm hf hrow hv T14 O14
      go_wp2_with fail
      have hs15 := O15.out.sl
      rw [HFLE.out] at hs15
      with_reducible refine (same35 w15 _ v15 _ _ hs15 Q15.out.sl hfl2 hfl2).mono ?_
      clear hs15
      rintro e w16 ⟨rfl, hb16⟩
      rw [HSM2.out]
      have T16 := Lib.hid (T15.out.below hb16)
      clear hb16 T15 O15 Q15
      go_wp2_with fail
      with_reducible refine (works35 _).mono ?_
      rintro e w17 ⟨rfl, hb17⟩
      have HB17 := Lib.hid (T16.out.a.bel.trans (hb17.mono T16.out.a.bel.size))
      clear hb17 T16
      go_wp2_with fail
      go_ret
      exact ⟨rfl, HB17.out⟩

end Go.Proofs.Ytebclbpibafkdaa
