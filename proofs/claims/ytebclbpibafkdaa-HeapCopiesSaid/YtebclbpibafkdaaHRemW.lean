/- HeapRemoves: the walk; what Remove and Change do at any index. -/
import Derived.Test.YtebclbpibafkdaaHTwo
import Derived.Test.YtebclbpibafkdaaHeapSortsP
import Derived.Test.YtebclbpibafkdaaDueP
import Derived.Test.YtebclbpibafkdaaExpB
namespace Go.Proofs.Ytebclbpibafkdaa
set_option linter.unusedVariables false
set_option linter.unusedSimpArgs false
open Go.RowKit

theorem HObj.idx {w : World} {b slots : Nat} {S : List Ent} {g : HG} (h : HObj w b slots S g) : ∀ e ∈ S, 0 ≤ e.1 ∧ e.1 < slots := by
  intro e he
  obtain ⟨p, hp, rfl⟩ := mem_ent (h.perm.mem_iff.1 he)
  obtain ⟨i, h1, h2, _⟩ := h.good.pos p hp
  have := h.hs
  rw [h1]; omega

theorem HDone.same {w : World} {b slots : Nat} {S : List Ent} {g : HG} (h : HObj w b slots S g) (v : Value) : HDone v w b slots S g (.returned v) w :=
  ⟨rfl, g, h, Mod.refl _ _, fun k hk => .inl hk⟩

theorem HObj.hasnt {w : World} {b slots : Nat} {S : List Ent} {g : HG} (h : HObj w b slots S g) {i : Int} (hi : ¬ ∃ k, (i, k) ∈ S) : ∀ e ∈ S, e.1 ≠ i := by
  rintro ⟨a, c⟩ he rfl
  exact hi ⟨c, he⟩

theorem remove_any (w : World) (b slots : Nat) (S : List Ent) (g : HG) (h : HObj w b slots S g) (i : Int) :
    ∃ e0 : Int, (e0 = 0 ↔ ∃ k, (i, k) ∈ S) ∧ Calls Try.prog 47 #[.pointer (some ⟨b, 0, none⟩), .int .i64 i] w (HDone (.int .i64 e0) w b slots (del i S) g) := by
  by_cases hin : ∃ k, (i, k) ∈ S
  · obtain ⟨k, hk⟩ := hin
    have hr := h.idx _ hk
    obtain ⟨n, rfl⟩ := Int.eq_ofNat_of_zero_le hr.1
    exact ⟨0, ⟨fun _ => ⟨k, hk⟩, fun _ => rfl⟩, remove_some w b slots S g h n (by omega) k hk⟩
  · have hno := h.hasnt hin
    rw [del_self hno]
    by_cases hr : 0 ≤ i ∧ i < slots
    · obtain ⟨n, rfl⟩ := Int.eq_ofNat_of_zero_le hr.1
      refine ⟨5, ⟨fun e => by omega, fun e => absurd e hin⟩, (remove_none w b slots S g h n (by omega) hno).mono fun e w' ⟨h1, h2⟩ => ?_⟩
      subst h1; subst h2; exact HDone.same h _
    · refine ⟨3, ⟨fun e => by omega, fun e => absurd e hin⟩, (remove_range w b slots S g h i hr).mono fun e w' ⟨h1, h2⟩ => ?_⟩
      subst h1; subst h2; exact HDone.same h _

theorem del_take_skip {i : Int} {S : List Ent} {k : Nat} (h : k < S.length) (he : (ent S k).1 = i) : del i (S.take (k + 1)) = del i (S.take k) := by
  rw [take_ent h]; unfold del; rw [List.filter_append]; simp [he]

theorem del_take_add {i : Int} {S : List Ent} {k : Nat} (h : k < S.length) (he : (ent S k).1 ≠ i) : del i (S.take (k + 1)) = del i (S.take k) ++ [ent S k] := by
  rw [take_ent h]; unfold del; rw [List.filter_append]; simp [he]

theorem pairs_has (z : List Int) (i : Int) : (∃ k, (i, k) ∈ sortE (pairs z)) ↔ (0 ≤ i ∧ i < z.length) := by
  constructor
  · rintro ⟨k, hk⟩
    obtain ⟨n, hn, e⟩ := mem_sortP.1 hk
    have : i = (n : Int) := by injection e
    omega
  · intro h
    obtain ⟨n, rfl⟩ := Int.eq_ofNat_of_zero_le h.1
    exact ⟨_, mem_sortP.2 ⟨n, by omega, rfl⟩⟩

set_option maxHeartbeats 4000000 in
set_option maxRecDepth 100000 in
theorem hrem_long (ao : Option Addr) (len cap : Nat) (i : Int) (w : World) (hl : 300 < len) (hm : len ≤ 9223372036854775807) :
    Calls Try.prog 16 #[.slice ao len cap, .int .i64 i] w (RetB (.bool true) w) := by
  go_enter Try.func16, Try.ntmps16
  go_wp2_with fail
  with_reducible refine (works04 _).mono ?_
  rintro e w' ⟨rfl, hb⟩
  have HB := Lib.hid hb
  clear hb
  go_wp2_with fail
  go_ret
  exact ⟨rfl, HB.out⟩

set_option maxHeartbeats 8000000 in
set_option maxRecDepth 100000 in
theorem hrem_short (ao : Option Addr) (len cap b off : Nat) (z : List Int) (i : Int) (w : World) (hz : InRow .i64 w ao len b off z) (hl : len ≤ 300) :
    Calls Try.prog 16 #[.slice ao len cap, .int .i64 i] w (RetB (.bool true) w) := by
  have HZ := Lib.hid hz
  clear hz
  have hd300 : decide (300 < (len : Int)) = false := by simp; omega
  go_enter Try.func16, Try.ntmps16
  go_wp2_with fail
  with_reducible refine (hfilled ao len cap b off z true w HZ.out hl).mono ?_
  rintro e w1 ⟨a, g, hf, rfl⟩
  have F := Lib.hid hf
  have hLl : (sortE (pairs z)).length = len := by rw [sortE_pairs_length, HZ.out.size]
  have HL := Lib.hid hLl
  have HP : Hid ((∃ k, (i, k) ∈ sortE (pairs z)) ↔ (0 ≤ i ∧ i < len)) := by have := pairs_has z i; rw [HZ.out.size] at this; exact this
  clear hf HZ hLl
  generalize sortE (pairs z) = S at F HL HP
  go_wp2_with fail
  with_reducible refine (list_ok w1 a 300 S g F.out.obj).mono ?_
  rintro e w2 ⟨v, rfl, hrow⟩
  have F2 := Lib.hid (F.out.below hrow.bel)
  have R2 := ERowX.of (b := a) (slots := 300) (S := S) hrow F.out.lt
  obtain ⟨o2, c2, hv2⟩ := owns_slice R2.own
  subst hv2
  rw [HL.out]
  have R2 := Lib.hid R2
  clear hrow F
  obtain ⟨e0, he0, hcall⟩ := remove_any w2 a 300 S g F2.out.obj i
  have HCALL := Lib.hid hcall
  have HE0 : Hid (e0 = 0 ↔ (0 ≤ i ∧ i < len)) := Lib.hid (he0.trans HP.out)
  clear he0 hcall HP
  go_wp2_with fail
  with_reducible refine (HCALL.out).mono ?_
  rintro e w3 ⟨rfl, g3, ho, hm, hf⟩
  have F3 := Lib.hid (F2.out.step ho hm hf)
  have R3 := Lib.hid (R2.out.step hm hf)
  clear ho hm hf F2 R2 HCALL
  go_wp2_with fail
  go_loopw [8, 9] (fun s8 s9 wr => ∃ k : Nat, k ≤ len ∧ s9 = .int .i64 k ∧ ENewRow w3 (del i (S.take k)) s8 wr) (fun _ s9 _ => len - (intOf s9).toNat)
  case atStart => exact ⟨0, by omega, rfl, World.ownsRow_nil _ _ _ _, Below.refl _ _, by simp [Value.ownBlock]⟩
  case round =>
    obtain ⟨k, hk, rfl, hr⟩ := hrel
    obtain ⟨oo, oc, rfl⟩ := owns_slice hr.own
    have HR := Lib.hid hr
    have R := R3.out.below hr.bel
    clear hr
    by_cases hlt : k < len
    · obtain ⟨ao', cap', hv', hcells⟩ := erow_form R.own
      injection hv' with e1 e2 e3
      subst e1; subst e3
      obtain ⟨bb, rfl, hbb, hcp1, hcp2, hc⟩ := hcells (by rw [HL.out]; omega)
      have hltS : k < S.length := by rw [HL.out]; exact hlt
      obtain ⟨k0, k1⟩ := hc k hltS
      rw [HL.out] at hcp1
      unfold maxLen at hcp2
      have hfl : (del i (S.take k)).length ≤ 300 := by unfold del; exact Nat.le_trans (List.length_filter_le _ _) (by rw [List.length_take]; omega)
      by_cases hx : (ent S k).1 = i
      · have HN := Lib.hid (del_take_skip hltS hx)
        have t1 : ((ent S k).1 != i) = false := by simp [hx]
        clear hx hc hcells R e2 hltS
        go_wp2_with fail
        go_roundw
        case rel => exact ⟨k + 1, by omega, by go_num, by rw [HN.out]; exact HR.out⟩
        case measure => simp [intOf]; omega
      · have HN := Lib.hid (del_take_add hltS hx)
        have t1 : ((ent S k).1 != i) = true := by simp [hx]
        clear hx hc hcells R e2 hltS
        generalize ent S k = x at *
        generalize del i (S.take k) = fl at *
        have hb2 : Below wr.heap.size wr (wr.alloc (.cells #[.int .i64 x.1, .int .i64 x.2] 28)) := (Below.refl _ _).alloc (Nat.le_refl _) _
        have HB2 := Lib.hid hb2
        have hnews := Lib.hid (news_new wr 28 [.int .i64 x.1, .int .i64 x.2])
        have hown := Lib.hid (HR.out.below hb2).own
        clear hb2
        go_wp2_with (at_builtin; apply keepIt2)
        apply Lib.hid
        refine wpList_appendB 28 (.agg #[.int .i64 0, .int .i64 0]) 2 16 Try.underlying68 Try.infoEntry rfl (by decide) (.slice oo fl.length oc) fl.length (ents fl) rfl hown.out ⟨wr.heap.size, 0, none⟩ 1 1 [.int .i64 x.1, .int .i64 x.2] rfl rfl hnews.out (by simp [Value.oneCell']) (by unfold maxLen; omega) (by omega) ?_
        intro v' w4 ho hg hk2
        have HR2 := Lib.hid (HR.out.more HB2.out ho hg hk2)
        clear ho hg hk2 hown hnews HB2 k0 k1
        go_wp2_with fail
        go_roundw
        case rel => exact ⟨k + 1, by omega, by go_num, by rw [HN.out]; exact HR2.out⟩
        case measure => simp [intOf]; omega
    · obtain rfl : k = len := by omega
      have hat : S.take k = S := List.take_of_length_le (by rw [HL.out]; omega)
      rw [hat] at HR ⊢
      have F4 := Lib.hid (F3.out.below HR.out.bel)
      have hdl : (del i S).length ≤ 65536 := by unfold del; exact Nat.le_trans (List.length_filter_le _ _) (by rw [HL.out]; omega)
      have HW := Lib.hid (ERowN.of HR.out)
      clear hat R F3 R3 HR
      by_cases hi : 0 ≤ i ∧ i < (k : Int)
      · have hz0 := HE0.out.2 hi
        obtain ⟨hi1, hi2⟩ := hi
        subst hz0
        clear HE0
        go_wp2_with fail
        with_reducible refine (list_ok wr a 300 (del i S) g3 F4.out.obj).mono ?_
        rintro e w5 ⟨u, rfl, hrow⟩
        have F5 := Lib.hid (F4.out.below hrow.bel)
        have W5 := Lib.hid (HW.out.below hrow.bel)
        have U5 := Lib.hid hrow.own
        clear hrow F4 HW
        go_wp2_with fail
        with_reducible refine (same04 w5 u _ (del i S) U5.out W5.out.own hdl).mono ?_
        rintro e w6 ⟨rfl, hb6⟩
        have F6 := Lib.hid (F5.out.below hb6)
        clear hb6 F5 W5 U5
        go_wp2_with fail
        with_reducible refine (works04 _).mono ?_
        rintro e w' ⟨rfl, hb⟩
        have HB := Lib.hid (F6.out.bel.trans (hb.mono F6.out.bel.size))
        clear hb
        go_wp2_with fail
        go_ret
        exact ⟨rfl, HB.out⟩
      · have hz0 : (e0 == 0) = false := beq_eq_false_iff_ne.2 (fun e => hi (HE0.out.1 e))
        clear HE0
        have hcase : (decide (0 ≤ i) = true ∧ decide (i < (k : Int)) = false) ∨ decide (0 ≤ i) = false := by
          by_cases hi1 : 0 ≤ i
          · exact .inl ⟨decide_eq_true hi1, decide_eq_false (fun e => hi ⟨hi1, e⟩)⟩
          · exact .inr (decide_eq_false hi1)
        clear hi
        rcases hcase with ⟨t5, t6⟩ | t5
        all_goals
          go_wp2_with fail
          with_reducible refine (list_ok wr a 300 (del i S) g3 F4.out.obj).mono ?_
          rintro e w5 ⟨u, rfl, hrow⟩
          have F5 := Lib.hid (F4.out.below hrow.bel)
          have W5 := Lib.hid (HW.out.below hrow.bel)
          have U5 := Lib.hid hrow.own
          clear hrow F4 HW
          go_wp2_with fail
          with_reducible refine (same04 w5 u _ (del i S) U5.out W5.out.own hdl).mono ?_
          rintro e w6 ⟨rfl, hb6⟩
          have F6 := Lib.hid (F5.out.below hb6)
          clear hb6 F5 W5 U5
          go_wp2_with fail
          with_reducible refine (works04 _).mono ?_
          rintro e w' ⟨rfl, hb⟩
          have HB := Lib.hid (F6.out.bel.trans (hb.mono F6.out.bel.size))
          clear hb
          go_wp2_with fail
          go_ret
          exact ⟨rfl, HB.out⟩

end Go.Proofs.Ytebclbpibafkdaa
