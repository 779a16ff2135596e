/- HeapCopies: the walk. -/
import Derived.Test.YtebclbpibafkdaaHRemW
import Derived.Test.YtebclbpibafkdaaCopyW
namespace Go.Proofs.Ytebclbpibafkdaa
set_option linter.unusedVariables false
set_option linter.unusedSimpArgs false
open Go.RowKit

theorem change_any (w : World) (b slots : Nat) (S : List Ent) (g : HG) (h : HObj w b slots S g) (i key : Int) :
    ∃ (e0 : Int) (S' : List Ent), Calls Try.prog 48 #[.pointer (some ⟨b, 0, none⟩), .int .i64 i, .int .i64 key] w (HDone (.int .i64 e0) w b slots S' g) := by
  by_cases hin : ∃ k, (i, k) ∈ S
  · obtain ⟨k, hk⟩ := hin
    have hr := h.idx _ hk
    obtain ⟨n, rfl⟩ := Int.eq_ofNat_of_zero_le hr.1
    exact ⟨0, _, change_some w b slots S g h n (by omega) k key hk⟩
  · have hno := h.hasnt hin
    by_cases hr : 0 ≤ i ∧ i < slots
    · obtain ⟨n, rfl⟩ := Int.eq_ofNat_of_zero_le hr.1
      refine ⟨5, S, (change_none w b slots S g h n key (by omega) hno).mono fun e w' ⟨h1, h2⟩ => ?_⟩
      subst h1; subst h2; exact HDone.same h _
    · refine ⟨3, S, (change_range w b slots S g h i key hr).mono fun e w' ⟨h1, h2⟩ => ?_⟩
      subst h1; subst h2; exact HDone.same h _

theorem push_any (w : World) (b slots : Nat) (S : List Ent) (g : HG) (h : HObj w b slots S g) (i key : Int) :
    ∃ (e0 : Int) (S' : List Ent), Calls Try.prog 49 #[.pointer (some ⟨b, 0, none⟩), .int .i64 i, .int .i64 key] w (HDone (.int .i64 e0) w b slots S' g) := by
  by_cases hr : 0 ≤ i ∧ i < slots
  · obtain ⟨n, rfl⟩ := Int.eq_ofNat_of_zero_le hr.1
    by_cases hin : ∃ k, ((n : Int), k) ∈ S
    · obtain ⟨k, hk⟩ := hin
      refine ⟨6, S, (push_have w b slots S g h n key (by omega) ⟨_, hk, rfl⟩).mono fun e w' ⟨h1, h2⟩ => ?_⟩
      subst h1; subst h2; exact HDone.same h _
    · exact ⟨0, _, push_ok w b slots S g h n key (by omega) (h.hasnt hin)⟩
  · refine ⟨3, S, (push_range w b slots S g h i key hr).mono fun e w' ⟨h1, h2⟩ => ?_⟩
    subst h1; subst h2; exact HDone.same h _

theorem pop_any (w : World) (b slots : Nat) (S : List Ent) (g : HG) (h : HObj w b slots S g) :
    ∃ (a0 a1 : Int) (t : Bool) (S' : List Ent), Calls Try.prog 23 #[.pointer (some ⟨b, 0, none⟩)] w (HDone (.tuple #[.agg #[.int .i64 a0, .int .i64 a1], .bool t]) w b slots S' g) := by
  cases S with
  | nil => exact ⟨_, _, _, [], (pop_empty w b slots g h).mono fun e w' ⟨h1, h2⟩ => ⟨h1, g, h.below h2, Mod.of_below h2, fun k hk => .inl hk⟩⟩
  | cons x S => exact ⟨_, _, _, S, (pop_some w b slots x S g h).mono fun e w' ⟨h1, h2⟩ => ⟨h1, h2⟩⟩

theorem HObj.len {w : World} {b : Nat} {S : List Ent} {g : HG} (h : HObj w b 300 S g) : S.length ≤ 65536 := by
  have h1 := h.good.len
  have h2 := h.perm.length_eq
  have h3 := h.hs
  omega

set_option maxHeartbeats 4000000 in
set_option maxRecDepth 100000 in
theorem hcpy_long (ao : Option Addr) (len cap : Nat) (i key : Int) (w : World) (hl : 300 < len) (hm : len ≤ 9223372036854775807) :
    Calls Try.prog 18 #[.slice ao len cap, .int .i64 i, .int .i64 key] w (RetB (.bool true) w) := by
  go_enter Try.func18, Try.ntmps18
  go_wp2_with fail
  with_reducible refine (works04 _).mono ?_
  rintro e w' ⟨rfl, hb⟩
  have HB := Lib.hid hb
  clear hb
  go_wp2_with fail
  go_ret
  exact ⟨rfl, HB.out⟩

set_option maxHeartbeats 8000000 in
set_option maxRecDepth 100000 in
theorem hcpy_short (ao : Option Addr) (len cap b off : Nat) (z : List Int) (i key : Int) (w : World) (hz : InRow .i64 w ao len b off z) (hl : len ≤ 300) :
    Calls Try.prog 18 #[.slice ao len cap, .int .i64 i, .int .i64 key] w (RetB (.bool true) w) := by
  have HZ := Lib.hid hz
  clear hz
  have hd300 : decide (300 < (len : Int)) = false := by simp; omega
  go_enter Try.func18, Try.ntmps18
  go_wp2_with fail
  with_reducible refine (hfilled ao len cap b off z false w HZ.out hl).mono ?_
  rintro e w1 ⟨a, g, hf, rfl⟩
  have F := Lib.hid hf
  clear hf HZ
  generalize sortE (pairs z) = S at F
  go_wp2_with fail
  with_reducible refine (list_ok w1 a 300 S g F.out.obj).mono ?_
  rintro e w2 ⟨v, rfl, hrow⟩
  have F2 := Lib.hid (F.out.below hrow.bel)
  have R2 := Lib.hid (ERowN.of hrow)
  clear hrow
  go_wp2_with fail
  with_reducible refine (copy_ok w2 a 300 S g F2.out.obj).mono ?_
  rintro e w3 ⟨hb3, c, h, ho, hf, rfl⟩
  have T3 := Lib.hid (HTwo.start F2.out (HFresh.mk ho hb3 hf)).swap
  have X3 : Hid (ERowX w3 v S h) := ⟨(R2.out.below hb3).own, fun x hx e => by have := hf x e; have := (R2.out.own.lt x hx).2; omega⟩
  have N3 := Lib.hid R2.out.new
  clear hb3 ho hf F2 R2
  go_wp2_with fail
  with_reducible refine (list_ok w3 c 300 S h T3.out.a.obj).mono ?_
  rintro e w4 ⟨u, rfl, hrow⟩
  have T4 := Lib.hid (T3.out.below hrow.bel)
  have X4 := Lib.hid (X3.out.below hrow.bel)
  have Q4 := Lib.hid hrow.own
  clear hrow T3 X3
  go_wp2_with fail
  with_reducible refine (same04 w4 u v S Q4.out X4.out.own T4.out.a.obj.len).mono ?_
  rintro e w5 ⟨rfl, hb5⟩
  have T5 := Lib.hid (T4.out.below hb5)
  have X5 := Lib.hid (X4.out.below hb5)
  clear hb5 T4 X4 Q4
  obtain ⟨e1, S1, hc1⟩ := change_any w5 c 300 S h T5.out.a.obj i key
  have HC1 := Lib.hid hc1
  clear hc1
  go_wp2_with fail
  with_reducible refine (HC1.out).mono ?_
  rintro e w6 ⟨rfl, g6, ho, hm, hf⟩
  have T6 := Lib.hid (T5.out.step ho hm hf)
  have X6 := Lib.hid (X5.out.step hm hf)
  clear ho hm hf T5 X5 HC1
  obtain ⟨e2, S2, hc1⟩ := push_any w6 c 300 S1 g6 T6.out.a.obj i key
  have HC1 := Lib.hid hc1
  clear hc1
  go_wp2_with fail
  with_reducible refine (HC1.out).mono ?_
  rintro e w7 ⟨rfl, g7, ho, hm, hf⟩
  have T7 := Lib.hid (T6.out.step ho hm hf)
  have X7 := Lib.hid (X6.out.step hm hf)
  clear ho hm hf T6 X6 HC1
  obtain ⟨p0, p1, p2, S3, hc1⟩ := pop_any w7 c 300 S2 g7 T7.out.a.obj
  have HC1 := Lib.hid hc1
  clear hc1
  go_wp2_with fail
  with_reducible refine (HC1.out).mono ?_
  rintro e w8 ⟨rfl, g8, ho, hm, hf⟩
  have T8 := Lib.hid (T7.out.step ho hm hf).swap
  have X8 := Lib.hid (X7.out.step hm hf)
  clear ho hm hf T7 X7 HC1
  go_wp2_with fail
  with_reducible refine (list_ok w8 a 300 S g T8.out.a.obj).mono ?_
  rintro e w9 ⟨u2, rfl, hrow⟩
  have T9 := Lib.hid (T8.out.below hrow.bel)
  have X9 := Lib.hid (X8.out.below hrow.bel)
  have Q9 := Lib.hid hrow.own
  clear hrow T8 X8
  go_wp2_with fail
  with_reducible refine (same04 w9 u2 v S Q9.out X9.out.own T9.out.a.obj.len).mono ?_
  rintro e w10 ⟨rfl, hb10⟩
  have T10 := Lib.hid (T9.out.below hb10)
  clear hb10 T9 X9 Q9 N3
  go_wp2_with fail
  with_reducible refine (list_ok w10 c 300 S3 g8 T10.out.b.obj).mono ?_
  rintro e w11 ⟨m, rfl, hrow⟩
  have T11 := Lib.hid (T10.out.below hrow.bel)
  have M11 := Lib.hid (ERowX.of (b := a) (slots := 300) (S := S) hrow T10.out.a.lt)
  clear hrow T10
  obtain ⟨e3, _, hc1⟩ := remove_any w11 a 300 S g T11.out.a.obj i
  have HC1 := Lib.hid hc1
  clear hc1
  go_wp2_with fail
  with_reducible refine (HC1.out).mono ?_
  rintro e w12 ⟨rfl, g12, ho, hm, hf⟩
  have T12 := Lib.hid (T11.out.step ho hm hf)
  have M12 := Lib.hid (M11.out.step hm hf)
  clear ho hm hf T11 M11 HC1
  obtain ⟨q0, q1, q2, S4, hc1⟩ := pop_any w12 a 300 _ g12 T12.out.a.obj
  have HC1 := Lib.hid hc1
  clear hc1
  go_wp2_with fail
  with_reducible refine (HC1.out).mono ?_
  rintro e w13 ⟨rfl, g13, ho, hm, hf⟩
  have T13 := Lib.hid (T12.out.step ho hm hf)
  have M13 := Lib.hid (M12.out.step hm hf)
  clear ho hm hf T12 M12 HC1
  go_wp2_with fail
  with_reducible refine (list_ok w13 c 300 S3 g8 T13.out.b.obj).mono ?_
  rintro e w14 ⟨u3, rfl, hrow⟩
  have T14 := Lib.hid (T13.out.below hrow.bel)
  have M14 := Lib.hid (M13.out.below hrow.bel)
  have Q14 := Lib.hid hrow.own
  clear hrow T13 M13
  go_wp2_with fail
  with_reducible refine (same04 w14 u3 m S3 Q14.out M14.out.own T14.out.b.obj.len).mono ?_
  rintro e w15 ⟨rfl, hb15⟩
  have T15 := Lib.hid (T14.out.below hb15)
  clear hb15 T14 M14 Q14
  go_wp2_with fail
  with_reducible refine (works04 _).mono ?_
  rintro e w' ⟨rfl, hb⟩
  have HB := Lib.hid (T15.out.a.bel.trans (hb.mono T15.out.a.bel.size))
  clear hb
  go_wp2_with fail
  go_ret
  exact ⟨rfl, HB.out⟩

end Go.Proofs.Ytebclbpibafkdaa
