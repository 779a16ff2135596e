/- HeapChanges: the walk. -/
import Derived.Test.YtebclbpibafkdaaHRemW
import Derived.Test.YtebclbpibafkdaaDelP
namespace Go.Proofs.Ytebclbpibafkdaa
set_option linter.unusedVariables false
set_option linter.unusedSimpArgs false
open Go.RowKit

/-- An index that is not there. -/
theorem not_there (slots : Nat) (S : List Ent) (i key : Int) (hno : ¬ ∃ k, (i, k) ∈ S) : ∃ e0 : Int, e0 ≠ 0 ∧ ∀ (w : World) (b : Nat) (g : HG), HObj w b slots S g →
    Calls Try.prog 48 #[.pointer (some ⟨b, 0, none⟩), .int .i64 i, .int .i64 key] w (Ret (.int .i64 e0) w) ∧
    Calls Try.prog 47 #[.pointer (some ⟨b, 0, none⟩), .int .i64 i] w (Ret (.int .i64 e0) w) ∧
    Calls Try.prog 50 #[.pointer (some ⟨b, 0, none⟩), .int .i64 i] w (Ret (.tuple #[.int .i64 0, .bool false]) w) := by
  by_cases hr : 0 ≤ i ∧ i < slots
  · obtain ⟨n, rfl⟩ := Int.eq_ofNat_of_zero_le hr.1
    refine ⟨5, by omega, fun w b g h => ?_⟩
    have hn := h.hasnt hno
    exact ⟨change_none w b slots S g h n key (by omega) hn, remove_none w b slots S g h n (by omega) hn, key_none w b slots S g h n (by omega) hn⟩
  · exact ⟨3, by omega, fun w b g h => ⟨change_range w b slots S g h i key hr, remove_range w b slots S g h i hr, key_range w b slots S g h i hr⟩⟩

set_option maxHeartbeats 4000000 in
set_option maxRecDepth 100000 in
theorem hchg_long (ao : Option Addr) (len cap : Nat) (i key : Int) (w : World) (hl : 300 < len) (hm : len ≤ 9223372036854775807) :
    Calls Try.prog 17 #[.slice ao len cap, .int .i64 i, .int .i64 key] w (RetB (.bool true) w) := by
  go_enter Try.func17, Try.ntmps17
  go_wp2_with fail
  with_reducible refine (works04 _).mono ?_
  rintro e w' ⟨rfl, hb⟩
  have HB := Lib.hid hb
  clear hb
  go_wp2_with fail
  go_ret
  exact ⟨rfl, HB.out⟩

set_option maxHeartbeats 8000000 in
set_option maxRecDepth 100000 in
theorem hchg_short (ao : Option Addr) (len cap b off : Nat) (z : List Int) (i key : Int) (w : World) (hz : InRow .i64 w ao len b off z) (hl : len ≤ 300) :
    Calls Try.prog 17 #[.slice ao len cap, .int .i64 i, .int .i64 key] w (RetB (.bool true) w) := by
  have HZ := Lib.hid hz
  clear hz
  have hd300 : decide (300 < (len : Int)) = false := by simp; omega
  go_enter Try.func17, Try.ntmps17
  go_wp2_with fail
  with_reducible refine (hfilled ao len cap b off z false w HZ.out hl).mono ?_
  rintro e w1 ⟨a, g, hf, rfl⟩
  have F := Lib.hid hf
  clear hf
  go_wp2_with fail
  with_reducible refine (hfilled ao len cap b off z false w1 (HZ.out.below F.out.bel) hl).mono ?_
  rintro e w2 ⟨c, h, hf, rfl⟩
  have T2 := Lib.hid (HTwo.start F.out hf)
  have hLl : (sortE (pairs z)).length = len := by rw [sortE_pairs_length, HZ.out.size]
  have HL := Lib.hid (show (sortE (pairs z)).length ≤ 300 by omega)
  clear hf F HZ hLl
  generalize sortE (pairs z) = S at T2 HL
  by_cases hin : ∃ k, (i, k) ∈ S
  · obtain ⟨k0, hk0⟩ := hin
    have hr := T2.out.a.obj.idx _ hk0
    obtain ⟨n, hn0⟩ := Int.eq_ofNat_of_zero_le hr.1
    simp only at hn0
    subst hn0
    have hn : n < 300 := by have := hr.2; simp only at this; omega
    have HK := Lib.hid hk0
    clear hr hk0
    go_wp2_with fail
    with_reducible refine (change_some w2 a 300 S g T2.out.a.obj n hn k0 key HK.out).mono ?_
    rintro e w3 ⟨rfl, g3, ho, hm, hf⟩
    have T3 := Lib.hid (T2.out.step ho hm hf).swap
    clear ho hm hf T2
    go_wp2_with fail
    with_reducible refine (remove_some w3 c 300 S h T3.out.a.obj n hn k0 HK.out).mono ?_
    rintro e w4 ⟨rfl, g4, ho, hm, hf⟩
    have T4 := Lib.hid (T3.out.step ho hm hf)
    clear ho hm hf T3
    go_wp2_with fail
    with_reducible refine (push_okI w4 c 300 (del (n : Int) S) g4 T4.out.a.obj _ key n rfl hn not_mem_del).mono ?_
    rintro e w5 ⟨rfl, g5, ho, hm, hf⟩
    have T5 := Lib.hid (T4.out.step ho hm hf).swap
    clear ho hm hf T4
    have HM : Hid (((n : Int), key) ∈ ins ((n : Int), key) (del (n : Int) S)) := mem_ins.2 (.inl rfl)
    have HAL : Hid ((ins ((n : Int), key) (del (n : Int) S)).length ≤ 65536) := by
      have h1 := HL.out
      have h2 : (del (n : Int) S).length ≤ S.length := by unfold del; exact List.length_filter_le _ _
      exact Lib.hid (by rw [ins_length]; omega)
    generalize ins ((n : Int), key) (del (n : Int) S) = A at *
    go_wp2_with fail
    with_reducible refine (key_some w5 a 300 A g3 T5.out.a.obj n hn key HM.out).mono ?_
    rintro e w' ⟨rfl, rfl⟩
    go_wp2_with fail
    with_reducible refine (list_ok w5 a 300 A g3 T5.out.a.obj).mono ?_
    rintro e w6 ⟨v, rfl, hrow⟩
    have T6 := Lib.hid (T5.out.below hrow.bel)
    have R6 := Lib.hid (ERowN.of hrow)
    clear hrow T5
    go_wp2_with fail
    with_reducible refine (list_ok w6 c 300 A g5 T6.out.b.obj).mono ?_
    rintro e w7 ⟨u, rfl, hrow⟩
    have T7 := Lib.hid (T6.out.below hrow.bel)
    have R7 := Lib.hid (R6.out.below hrow.bel)
    have Q7 := Lib.hid hrow.own
    clear hrow T6 R6
    go_wp2_with fail
    with_reducible refine (same04 w7 v u A R7.out.own Q7.out HAL.out).mono ?_
    rintro e w8 ⟨rfl, hb8⟩
    have T8 := Lib.hid (T7.out.below hb8)
    clear hb8 T7 R7 Q7
    go_wp2_with fail
    with_reducible refine (works04 _).mono ?_
    rintro e w' ⟨rfl, hb⟩
    have HB := Lib.hid (T8.out.a.bel.trans (hb.mono T8.out.a.bel.size))
    clear hb
    go_wp2_with fail
    go_ret
    exact ⟨rfl, HB.out⟩
  · obtain ⟨e0, hne, hall⟩ := not_there 300 S i key hin
    have HALL := Lib.hid hall
    have t1 : (e0 == 0) = false := beq_eq_false_iff_ne.2 hne
    have t2 : (e0 != 0) = true := by simp [hne]
    have HAL : Hid (S.length ≤ 65536) := by have := HL.out; exact Lib.hid (by omega)
    clear hall hne hin
    go_wp2_with (first
      | (go_at_call 48; refine ((HALL.out w2 a g T2.out.a.obj).1).mono ?_; rintro e w' ⟨rfl, rfl⟩)
      | (go_at_call 47; refine ((HALL.out w2 c h T2.out.b.obj).2.1).mono ?_; rintro e w' ⟨rfl, rfl⟩)
      | (go_at_call 50; refine ((HALL.out w2 a g T2.out.a.obj).2.2).mono ?_; rintro e w' ⟨rfl, rfl⟩))
    with_reducible refine (list_ok w2 a 300 S g T2.out.a.obj).mono ?_
    rintro e w6 ⟨v, rfl, hrow⟩
    have T6 := Lib.hid (T2.out.below hrow.bel)
    have R6 := Lib.hid (ERowN.of hrow)
    clear hrow T2
    go_wp2_with fail
    with_reducible refine (list_ok w6 c 300 S h T6.out.b.obj).mono ?_
    rintro e w7 ⟨u, rfl, hrow⟩
    have T7 := Lib.hid (T6.out.below hrow.bel)
    have R7 := Lib.hid (R6.out.below hrow.bel)
    have Q7 := Lib.hid hrow.own
    clear hrow T6 R6
    go_wp2_with fail
    with_reducible refine (same04 w7 v u S R7.out.own Q7.out HAL.out).mono ?_
    rintro e w8 ⟨rfl, hb8⟩
    have T8 := Lib.hid (T7.out.below hb8)
    clear hb8 T7 R7 Q7
    go_wp2_with fail
    with_reducible refine (works04 _).mono ?_
    rintro e w' ⟨rfl, hb⟩
    have HB := Lib.hid (T8.out.a.bel.trans (hb.mono T8.out.a.bel.size))
    clear hb
    go_wp2_with fail
    go_ret
    exact ⟨rfl, HB.out⟩

end Go.Proofs.Ytebclbpibafkdaa
