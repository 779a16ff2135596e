/- The reference of layer 35: Set, Due. -/
import Derived.Test.YtebclbpibafkdaaECopy
import Derived.Test.YtebclbpibafkdaaDueP
namespace Go.Proofs.Ytebclbpibafkdaa
set_option linter.unusedVariables false
set_option linter.unusedSimpArgs false
open Go.RowKit

theorem wo_find {i : Int} {L : List Ent} (hn : (L.map (·.1)).Nodup) : wo (rfind i L) L L.length = del i L := by
  rcases rfind_cases i L with ⟨p, hp, hf, he⟩ | ⟨hf, hno⟩
  · rw [hf]; exact wo_del hn hp he
  · rw [hf, wo_all (by omega), del_self hno]

set_option maxHeartbeats 1000000 in
theorem rset_nil (w : World) (slot at' : Int) :
    Calls Try.prog 38 #[.pointer none, .int .i64 slot, .int .i64 at'] w (Ret (.int .i64 1) w) := by
  go_enter Try.func38, Try.ntmps38
  go_wp2_with (go_at_call 70; refine (rcheck_nil w slot).mono ?_; rintro e w' ⟨rfl, rfl⟩)
  go_ret
  exact ⟨rfl, rfl⟩

set_option maxHeartbeats 1000000 in
theorem rset_range (w : World) (r slots : Nat) (L : List Ent) (v : Value) (h : RObj w r slots L v) (slot at' : Int) (hi : ¬ (0 ≤ slot ∧ slot < slots)) :
    Calls Try.prog 38 #[.pointer (some ⟨r, 0, none⟩), .int .i64 slot, .int .i64 at'] w (Ret (.int .i64 3) w) := by
  have HH := Lib.hid h
  have HI := Lib.hid hi
  clear h hi
  go_enter Try.func38, Try.ntmps38
  go_wp2_with (go_at_call 70; refine (rcheck_range w r slots L v HH.out slot HI.out).mono ?_; rintro e w' ⟨rfl, rfl⟩)
  go_ret
  exact ⟨rfl, rfl⟩

theorem ENewRow.rebase {w w1 wr : World} {L : List Ent} {v : Value} (h : ENewRow w1 L v wr) (hb : Below w.heap.size w w1) : ENewRow w L v wr :=
  ⟨h.own, hb.trans (h.bel.mono hb.size), fun k hk => Nat.le_trans hb.size (h.new k hk)⟩

set_option maxHeartbeats 8000000 in
set_option maxRecDepth 100000 in
theorem rset_ok (w : World) (r slots : Nat) (L : List Ent) (v : Value) (h : RObj w r slots L v) (slot at' : Int) (h0 : 0 ≤ slot) (h1 : slot < slots) (hl : L.length < 65536) :
    Calls Try.prog 38 #[.pointer (some ⟨r, 0, none⟩), .int .i64 slot, .int .i64 at'] w (RDone (.int .i64 0) w r slots (ins (slot, at') (wo (rfind slot L) L L.length))) := by
  have HH := Lib.hid h
  have hRl := wo_length (rfind slot L) L L.length
  clear h
  go_enter Try.func38, Try.ntmps38
  go_wp2_with (first
    | (go_at_call 70; refine (rcheck_ok w r slots L v HH.out slot h0 h1).mono ?_; rintro e w' ⟨rfl, rfl⟩)
    | (go_at_call 72; refine (rfind_ok w r slots L v HH.out slot).mono ?_; rintro e w' ⟨rfl, rfl⟩))
  with_reducible refine (rwithout_ok w r slots L v HH.out _).mono ?_
  rintro e w1 ⟨vr, rfl, hrow⟩
  generalize wo (rfind slot L) L L.length = R at *
  have hR : R.length < 65536 := by omega
  obtain ⟨ao, cp, hvr, hcells⟩ := erow_form hrow.own
  subst hvr
  have HR := Lib.hid hrow
  have HC := Lib.hid hcells
  clear hrow hcells hRl
  obtain ⟨n, hn⟩ : ∃ n, n = R.length := ⟨_, rfl⟩
  rw [← hn] at hR
  have HN := Lib.hid hn
  rw [← hn]
  clear hn
  go_wp2_with fail
  go_loopw [8, 9, 11] (fun s8 s9 s11 wr => ∃ (i : Nat) (put : Bool) (O : List Ent), i ≤ n ∧ s11 = .int .i64 i ∧ s9 = .bool put ∧ Putting (slot, at') R i put O ∧ ENewRow w1 O s8 wr) (fun _ _ s11 _ => n - (intOf s11).toNat)
  case atStart => exact ⟨0, false, [], by omega, rfl, rfl, Putting.start _ _, World.ownsRow_nil _ _ _ _, Below.refl _ _, by simp [Value.ownBlock]⟩
  case round =>
    obtain ⟨i, put, O, hi, rfl, rfl, hp, hrow⟩ := hrel
    obtain ⟨oo, oc, rfl⟩ := owns_slice hrow.own
    have hOl := hp.len
    have HP := Lib.hid hp
    have HO := Lib.hid hrow
    clear hp
    by_cases hlt : i < n
    · obtain ⟨b, rfl, hb, hc1, hc2, hc⟩ := HC.out (by rw [← HN.out]; omega)
      have hltR : i < R.length := by rw [← HN.out]; exact hlt
      obtain ⟨k0', k1'⟩ := hc i hltR
      have k0 := (hrow.bel.cell hb).trans k0'
      have k1 := (hrow.bel.cell hb).trans k1'
      rw [← HN.out] at hc1
      unfold maxLen at hc2
      have hbw : b < wr.heap.size := Nat.lt_of_lt_of_le hb hrow.bel.size
      clear hc k0' k1' hrow
      have HLT := Lib.hid hltR
      clear hltR
      obtain ⟨x, hx⟩ : ∃ x, x = ent R i := ⟨_, rfl⟩
      have HX := Lib.hid hx
      rw [← hx] at k0 k1
      clear hx
      have hb2 : Below wr.heap.size wr (wr.alloc (.cells #[.int .i64 x.1, .int .i64 x.2] 28)) := (Below.refl _ _).alloc (Nat.le_refl _) _
      have BX := Blk.new wr 28 [.int .i64 x.1, .int .i64 x.2]
      cases put with
      | true =>
        have hb3 := hb2.alloc hb2.size (.cells #[.int .i64 x.1, .int .i64 x.2] 28)
        have HB3 := Lib.hid hb3
        have hnews := Lib.hid (news_new (wr.alloc (.cells #[.int .i64 x.1, .int .i64 x.2] 28)) 28 [.int .i64 x.1, .int .i64 x.2])
        have hown := Lib.hid (HO.out.below hb3).own
        clear hb2 hb3 BX
        go_wp2_with (at_builtin; apply keepIt2)
        apply Lib.hid
        refine wpList_appendB 28 (.agg #[.int .i64 0, .int .i64 0]) 2 16 Try.underlying68 Try.infoEntry rfl (by decide) (.slice oo O.length oc) O.length (ents O) rfl hown.out ⟨wr.heap.size + 1, 0, none⟩ 1 1 [.int .i64 x.1, .int .i64 x.2] rfl rfl (by simpa using hnews.out) (by simp [Value.oneCell']) (by unfold maxLen; omega) (by omega) ?_
        intro v' w2 ho hg hk2
        have HR2 := Lib.hid (HO.out.more HB3.out ho hg hk2)
        clear ho hg hk2 hown hnews HB3 k0 k1
        go_wp2_with fail
        go_roundw
        case rel => exact ⟨i + 1, true, O ++ [x], by omega, by go_num, rfl, by rw [HX.out]; exact HP.out.put HLT.out, HR2.out⟩
        case measure => simp [intOf]; omega
      | false =>
        by_cases he : elt (slot, at') x
        · have HE := Lib.hid he
          have hcase : decide (at' < x.2) = true ∨ (decide (at' < x.2) = false ∧ (x.2 == at') = true ∧ decide (slot < x.1) = true) := by
            unfold elt at he
            simp only at he
            rcases he with he | ⟨he1, he2⟩
            · exact .inl (decide_eq_true he)
            · exact .inr ⟨decide_eq_false (by omega), by simp [he1], decide_eq_true he2⟩
          have hb3 := hb2.alloc hb2.size (.cells #[.int .i64 slot, .int .i64 at'] 28)
          have HB3 := Lib.hid hb3
          have hnews := Lib.hid (news_new (wr.alloc (.cells #[.int .i64 x.1, .int .i64 x.2] 28)) 28 [.int .i64 slot, .int .i64 at'])
          have hown := Lib.hid (HO.out.below hb3).own
          have BX3 := Lib.hid (BX.alloc (.cells #[.int .i64 slot, .int .i64 at'] 28))
          have hlo := Lib.hid (fun k hk => (HO.out.own.lt k hk).2)
          clear he hb2 hb3 BX
          rcases hcase with t1 | ⟨t1, t2, t3⟩
          all_goals
            go_wp2_with (at_builtin; apply keepIt2)
            apply Lib.hid
            refine wpList_appendB 28 (.agg #[.int .i64 0, .int .i64 0]) 2 16 Try.underlying68 Try.infoEntry rfl (by decide) (.slice oo O.length oc) O.length (ents O) rfl hown.out ⟨wr.heap.size + 1, 0, none⟩ 1 1 [.int .i64 slot, .int .i64 at'] rfl rfl (by simpa using hnews.out) (by simp [Value.oneCell']) (by unfold maxLen; omega) (by omega) ?_
            intro v' w2 ho hg hk2
            have HR2 := Lib.hid (HO.out.more (x := (slot, at')) HB3.out ho hg hk2)
            have BX2 : Blk w2 wr.heap.size 28 [.int .i64 x.1, .int .i64 x.2] := by
              have := hg.block wr.heap.size BX3.out.lt (fun e => by have := hlo.out _ e.symm; omega)
              unfold Blk
              rw [this]
              exact BX3.out
            have x0 := BX2.cell (i := 0) rfl
            have x1 := BX2.cell (i := 1) rfl
            obtain ⟨o2, cc2, hv2⟩ := owns_slice ho
            subst hv2
            have hb4 : Below w2.heap.size w2 (w2.alloc (.cells #[.int .i64 x.1, .int .i64 x.2] 28)) := (Below.refl _ _).alloc (Nat.le_refl _) _
            have HB4 := Lib.hid hb4
            have hnews2 := Lib.hid (news_new w2 28 [.int .i64 x.1, .int .i64 x.2])
            have hown2 := (HR2.out.below hb4).own
            rw [List.length_append] at hown2
            have HOWN2 := Lib.hid hown2
            clear ho hg hk2 hown hnews HB3 k0 k1 BX2 BX3 hb4 hown2
            go_wp2_with (at_builtin; apply keepIt2)
            apply Lib.hid
            refine wpList_appendB 28 (.agg #[.int .i64 0, .int .i64 0]) 2 16 Try.underlying68 Try.infoEntry rfl (by decide) (.slice o2 (O.length + 1) cc2) (O.length + 1) (ents (O ++ [(slot, at')])) rfl HOWN2.out ⟨w2.heap.size, 0, none⟩ 1 1 [.int .i64 x.1, .int .i64 x.2] rfl rfl hnews2.out (by simp [Value.oneCell']) (by unfold maxLen; omega) (by omega) ?_
            intro v3 w3 ho hg hk3
            have HR3 := Lib.hid (HR2.out.more (x := x) HB4.out (by rw [List.length_append]; exact ho) hg hk3)
            clear ho hg hk3 HOWN2 hnews2 HB4 x0 x1 HR2
            go_wp2_with fail
            go_roundw
            case rel => exact ⟨i + 1, true, O ++ [(slot, at')] ++ [x], by omega, by go_num, rfl, by rw [HX.out]; exact HP.out.now HLT.out (by rw [← HX.out]; exact HE.out), HR3.out⟩
            case measure => simp [intOf]; omega
        · have HE := Lib.hid he
          have hcase : (decide (at' < x.2) = false ∧ (x.2 == at') = false) ∨ (decide (at' < x.2) = false ∧ (x.2 == at') = true ∧ decide (slot < x.1) = false) := by
            unfold elt at he
            simp only at he
            by_cases e2 : x.2 = at'
            · exact .inr ⟨decide_eq_false (by omega), by simp [e2], decide_eq_false (by omega)⟩
            · exact .inl ⟨decide_eq_false (by omega), by simp [e2]⟩
          have hb3 := hb2.alloc hb2.size (.cells #[.int .i64 x.1, .int .i64 x.2] 28)
          have HB3 := Lib.hid hb3
          have hnews := Lib.hid (news_new (wr.alloc (.cells #[.int .i64 x.1, .int .i64 x.2] 28)) 28 [.int .i64 x.1, .int .i64 x.2])
          have hown := Lib.hid (HO.out.below hb3).own
          clear hb2 hb3 BX he
          rcases hcase with ⟨t1, t2⟩ | ⟨t1, t2, t3⟩
          all_goals
            go_wp2_with (at_builtin; apply keepIt2)
            apply Lib.hid
            refine wpList_appendB 28 (.agg #[.int .i64 0, .int .i64 0]) 2 16 Try.underlying68 Try.infoEntry rfl (by decide) (.slice oo O.length oc) O.length (ents O) rfl hown.out ⟨wr.heap.size + 1, 0, none⟩ 1 1 [.int .i64 x.1, .int .i64 x.2] rfl rfl (by simpa using hnews.out) (by simp [Value.oneCell']) (by unfold maxLen; omega) (by omega) ?_
            intro v' w2 ho hg hk2
            have HR2 := Lib.hid (HO.out.more HB3.out ho hg hk2)
            clear ho hg hk2 hown hnews HB3 k0 k1
            go_wp2_with fail
            go_roundw
            case rel => exact ⟨i + 1, false, O ++ [x], by omega, by go_num, rfl, by rw [HX.out]; exact HP.out.skip HLT.out (by rw [← HX.out]; exact HE.out), HR2.out⟩
            case measure => simp [intOf]; omega
    · obtain rfl : i = n := by omega
      have hbw := hrow.bel
      have B := HH.out.blk.below HR.out.bel HH.out.blk.lt
      clear hrow
      cases put with
      | true =>
        have B2 := B.below hbw B.lt
        have c2 := B2.cell (i := 2) rfl
        have f2 := B2.free 2
        have hp := HP.out
        rw [HN.out] at hp
        have hO := hp.endPut
        have FIN := HH.out.stored (HO.out.rebase HR.out.bel) (by omega) (.int .i64 0)
        rw [hO] at FIN
        rw [hO]
        have FIN := Lib.hid FIN
        clear B B2 hbw hp hO
        go_wp2_with fail
        go_ret
        exact FIN.out
      | false =>
        have hb3 : Below wr.heap.size wr (wr.alloc (.cells #[.int .i64 slot, .int .i64 at'] 28)) := (Below.refl _ _).alloc (Nat.le_refl _) _
        have HB3 := Lib.hid hb3
        have hnews := Lib.hid (news_new wr 28 [.int .i64 slot, .int .i64 at'])
        have hown := Lib.hid (HO.out.below hb3).own
        have HBB := Lib.hid B
        clear hb3 hbw B
        go_wp2_with (at_builtin; apply keepIt2)
        apply Lib.hid
        refine wpList_appendB 28 (.agg #[.int .i64 0, .int .i64 0]) 2 16 Try.underlying68 Try.infoEntry rfl (by decide) (.slice oo O.length oc) O.length (ents O) rfl hown.out ⟨wr.heap.size, 0, none⟩ 1 1 [.int .i64 slot, .int .i64 at'] rfl rfl hnews.out (by simp [Value.oneCell']) (by unfold maxLen; omega) (by omega) ?_
        intro v' w2 ho hg hk2
        have HR2 := HO.out.more (x := (slot, at')) HB3.out ho hg hk2
        have hp := HP.out
        have hOl2 : O.length ≤ i := by rw [(hp.no rfl).2, List.length_take]; omega
        rw [HN.out] at hp
        have hO := hp.endNot
        have B2 := HBB.out.below HR2.bel HBB.out.lt
        have c2 := B2.cell (i := 2) rfl
        have f2 := B2.free 2
        obtain ⟨o2, cc2, hv2⟩ := owns_slice ho
        subst hv2
        have FIN := HH.out.stored (HR2.rebase HR.out.bel) (by rw [List.length_append]; simp only [List.length_cons, List.length_nil]; omega) (.int .i64 0)
        rw [hO] at FIN
        have FIN := Lib.hid FIN
        clear ho hg hk2 hown hnews HB3 HR2 hp hO B2 hOl2
        go_wp2_with fail
        go_ret
        exact FIN.out

end Go.Proofs.Ytebclbpibafkdaa
