/- ExpiryCopies: the walk. -/
import Derived.Test.YtebclbpibafkdaaThree
namespace Go.Proofs.Ytebclbpibafkdaa
set_option linter.unusedVariables false
set_option linter.unusedSimpArgs false
open Go.RowKit

set_option maxHeartbeats 4000000 in
set_option maxRecDepth 100000 in
theorem copies_long (ao : Option Addr) (len cap : Nat) (x y : Int) (w : World) (hl : 299 < len) (hm : len ≤ 9223372036854775807) :
    Calls Try.prog 10 #[.slice ao len cap, .int .u16 x, .int .i64 y] w (RetB (.bool true) w) := by
  go_enter Try.func10, Try.ntmps10
  go_wp2_with fail
  with_reducible refine (works35 _).mono ?_
  rintro e w' ⟨rfl, hb⟩
  have HB := Lib.hid hb
  clear hb
  go_wp2_with fail
  go_ret
  exact ⟨rfl, HB.out⟩

set_option maxHeartbeats 8000000 in
set_option maxRecDepth 100000 in
theorem copies_short (ao : Option Addr) (len cap b off : Nat) (z : List Int) (wh : Nat) (at' : Int) (w : World) (hz : InRow .i64 w ao len b off z) (hl : len ≤ 299) (hw : wh ≤ 65535) :
    Calls Try.prog 10 #[.slice ao len cap, .int .u16 wh, .int .i64 at'] w (RetB (.bool true) w) := by
  have HZ := Lib.hid hz
  clear hz
  have hd300 : decide (299 < (len : Int)) = false := by simp; omega
  have hk : wh % (len + 1) < 300 := Nat.lt_of_lt_of_le (Nat.mod_lt _ (by omega)) (by omega)
  go_enter Try.func10, Try.ntmps10
  go_wp2_with fail
  with_reducible refine (filled35 ao len cap b off z false w HZ.out (by omega)).mono ?_
  rintro e w1 ⟨s, q, g, hf, rfl⟩
  have F := Lib.hid hf
  have hLl : (sortE (pairs z)).length = len := by rw [sortE_pairs_length, HZ.out.size]
  have HL := Lib.hid hLl
  clear hf HZ hLl
  generalize sortE (pairs z) = S at F HL
  go_wp2_with fail
  with_reducible refine (ecopy_ok w1 s 300 S q g F.out.obj).mono ?_
  rintro e w2 ⟨c, qc, gc, hfc, rfl⟩
  have FC := Lib.hid hfc
  have F2 := Lib.hid (F.out.below hfc.bel)
  clear hfc
  go_wp2_with fail
  with_reducible refine (ecopy_ok w2 s 300 S q g F2.out.obj).mono ?_
  rintro e w3 ⟨d, qd, gd, hfd, rfl⟩
  have T3 := Lib.hid (Three.start F.out FC.out hfd).swap
  clear hfd F F2 FC
  go_wp2_with fail
  with_reducible refine (eset_okI w3 c 300 S qc gc T3.out.a.obj _ at' (wh % (len + 1)) (by push_cast; rfl) hk).mono ?_
  rintro e w4 ⟨rfl, g4, ho, hm, hf⟩
  have T4 := Lib.hid (T3.out.step ho hm hf)
  clear ho hm hf T3
  go_wp2_with fail
  with_reducible refine (eset_okI w4 c 300 _ qc g4 T4.out.a.obj 299 at' 299 rfl (by omega)).mono ?_
  rintro e w5 ⟨rfl, g5, ho, hm, hf⟩
  have T5 := Lib.hid (T4.out.step ho hm hf)
  clear ho hm hf T4
  have HLEN := Lib.hid (copies_len T5.out.a.obj.obj.sorted)
  generalize ins (((299 : Nat) : Int), at') (del ((299 : Nat) : Int) (ins (((wh % (len + 1) : Nat) : Int), at') (del ((wh % (len + 1) : Nat) : Int) S))) = C at T5 HLEN
  go_wp2_with fail
  with_reducible refine (edue_ok w5 c 300 C qc g5 T5.out.a.obj at').mono ?_
  rintro e w6 ⟨v6, g6, rfl, ho, hrow, hm, hf, hv⟩
  have T6 := Lib.hid (T5.out.step ho hm hf).rot.rot
  clear ho hm hf hrow hv T5
  generalize C.drop (dueN C at') = D at T6 HLEN
  go_wp2_with fail
  with_reducible refine (edue_ok w6 d 300 S qd gd T6.out.a.obj 9223372036854775807).mono ?_
  rintro e w7 ⟨v7, g7, rfl, ho, hrow, hm, hf, hv⟩
  have T7 := Lib.hid (T6.out.step ho hm hf).rot.rot
  have R7 := Lib.hid (RowX.due T6.out.rot.rot.swap.two (dueN_le S _) hrow hv).swap
  clear ho hm hf hrow hv T6
  have HYL : Hid (((List.take (dueN S 9223372036854775807) S).map (·.1)).length ≤ 1000000) := by have := HL.out; exact Lib.hid (by simp; omega)
  go_wp2_with fail
  with_reducible refine (elen_ok w7 s 300 S q g T7.out.a.obj).mono ?_
  rintro e w' ⟨rfl, rfl⟩
  rw [HL.out]
  go_wp2_with fail
  with_reducible refine (edue_ok w7 s 300 S q g T7.out.a.obj 9223372036854775807).mono ?_
  rintro e w8 ⟨v8, g8, rfl, ho, hrow, hm, hf, hv⟩
  have T8 := Lib.hid (T7.out.step ho hm hf)
  have R8 := Lib.hid (R7.out.step hm hf)
  have Q8 := Lib.hid (RowX.due T7.out.two (dueN_le S _) hrow hv)
  clear ho hm hf hrow hv T7 R7
  go_wp2_with fail
  with_reducible refine (same35 w8 v8 v7 _ _ Q8.out.sl R8.out.sl HYL.out HYL.out).mono ?_
  rintro e w9 ⟨rfl, hb9⟩
  have T9 := Lib.hid (T8.out.below hb9)
  have hsm : sameB ((List.take (dueN S 9223372036854775807) S).map (·.1)) ((List.take (dueN S 9223372036854775807) S).map (·.1)) = true := by simp [sameB]
  rw [hsm]
  clear hb9 T8 R8 Q8 HYL hsm
  have hDl : D.length ≤ len := by have := HLEN.out; have := HL.out; omega
  have hdec : decide (D.length ≤ len) = true := decide_eq_true hDl
  go_wp2_with fail
  with_reducible refine (elen_ok w9 c 300 D qc g6 T9.out.c.obj).mono ?_
  rintro e w' ⟨rfl, rfl⟩
  go_wp2_with fail
  with_reducible refine (works35 _).mono ?_
  rintro e w10 ⟨rfl, hb10⟩
  have HB10 := Lib.hid (T9.out.a.bel.trans (hb10.mono T9.out.a.bel.size))
  clear hb10 T9
  go_wp2_with fail
  go_ret
  exact ⟨rfl, HB10.out⟩

end Go.Proofs.Ytebclbpibafkdaa
