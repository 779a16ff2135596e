/- The statement MinimaxDistances: the walk. -/
import Derived.Test.YtenhbfbfkcjimaaDoorZMgN
import Derived.Test.YtenhbfbfkcjimaaDoorZRwG
import Derived.Test.YtenhbfbfkcjimaaDoorZMgO
import Derived.Lib.QuietBelow
namespace Go.Proofs.YtenhbfbfkcjimaaDoor
set_option linter.unusedVariables false
set_option linter.unusedSimpArgs false
open Go.RowKit Go.Shelf Go.Sort
attribute [local go_sem] Oper.semAt_some

/-- Both finders, as the rest of the statement sees them. -/
structure DtPack (w : World) (pa pb : Option Addr) (u v th : Int) (m1 : Option Int) (m2 : Option Nat) (j : Bool) : Prop where
  a1 : ∀ W, Below w.heap.size w W → Calls Tryd.prog 20 #[.pointer pa, .int .i64 u, .int .i64 v] W (RetB (intR m1) W)
  a2 : ∀ W, Below w.heap.size w W → Calls Tryd.prog 23 #[.pointer pb, .int .i64 u, .int .i64 v] W (RetB (intR m1) W)
  b1 : ∀ W, Below w.heap.size w W → Calls Tryd.prog 21 #[.pointer pa, .int .i64 u, .int .i64 v] W (RetB (comR m2) W)
  b2 : ∀ W, Below w.heap.size w W → Calls Tryd.prog 24 #[.pointer pb, .int .i64 u, .int .i64 v] W (RetB (comR m2) W)
  c1 : ∀ W, Below w.heap.size w W → Calls Tryd.prog 25 #[.pointer pa, .int .i64 u, .int .i64 v, .int .i64 th] W (RetB (.bool j) W)
  c2 : ∀ W, Below w.heap.size w W → Calls Tryd.prog 26 #[.pointer pb, .int .i64 u, .int .i64 v, .int .i64 th] W (RetB (.bool j) W)

theorem DtPack.nil (w : World) (u v th : Int) : DtPack w none none u v th none none false :=
  have no : ∀ W, NoHas (.pointer none) u W := fun W => (show NilF (.pointer none) W from .inl rfl).noHas u
  ⟨fun W _ => minimax_no W _ ⟨_, rfl⟩ u v (no W), fun W _ => rminimax_nil W u v, fun W _ => edge_no W _ ⟨_, rfl⟩ u v (no W), fun W _ => redge_nil W u v, fun W _ => joined_no W _ ⟨_, rfl⟩ u v th (no W), fun W _ => rjoined_nil W u v th⟩

theorem DtPack.of {w : World} {M : MB} {f g n : Nat} {l : List Ed} (hM : MObj w M n l) (hR : R2Obj w f g n l) (hg : GOk n l) (hw : WOk l) (hT : Tab64 w) (u v th : Int) (ht : -9223372036854775808 ≤ th) : DtPack w (some ⟨M.f, 0, none⟩) (some ⟨f, 0, none⟩) u v th (mmV n l u v) (edV n l u v) (jnV n l u v th) :=
  ⟨fun W hb => minimax_ok W M n l (hM.below hb) hg (hT.below hb) u v, fun W hb => rminimax_ok W f g n l (hR.below hb) hg hw u v,
   fun W hb => edge_ok W M n l (hM.below hb) hg (hT.below hb) u v, fun W hb => redge_ok W f g n l (hR.below hb) hg u v,
   fun W hb => joined_ok W M n l (hM.below hb) hg (hT.below hb) u v th, fun W hb => by rw [← jnR_jnV hg ht]; exact rjoined_ok W f g n l (hR.below hb) hg u v th⟩

set_option maxHeartbeats 16000000 in
set_option maxRecDepth 100000 in
theorem dist_law (w : World) (hT : Tab64 w) (n : Int) (ao : Option Addr) (m cap b off : Nat) (l : List Ed) (he : ERow w ao m b off l) (hm : m ≤ 9223372036854775807) (hnil : ao = none → cap = 0) (hn64 : -9223372036854775808 ≤ n ∧ n ≤ 9223372036854775807) (hw : WOk l) (u v th : Int) (hth : -9223372036854775808 ≤ th ∧ th ≤ 9223372036854775807) :
    Calls Tryd.prog 8 #[.int .i64 n, .slice ao m cap, .agg #[.int .i64 u, .int .i64 v, .int .i64 th]] w (RetB (.bool true) w) := by
  have HE := Lib.hid he
  have HNIL := Lib.hid hnil
  have H64 := Lib.hid hn64
  have HTH := Lib.hid hth
  have HT := Lib.hid hT
  have HW := Lib.hid hw
  clear he hnil hn64 hT hw hth
  have HBX := Lib.hid (bel_alloc w (.cells #[.int .i64 u, .int .i64 v, .int .i64 th] 33))
  have HX : Hid (Blk (w.alloc (.cells #[.int .i64 u, .int .i64 v, .int .i64 th] 33)) w.heap.size 33 [.int .i64 u, .int .i64 v, .int .i64 th]) := Blk.new w 33 [.int .i64 u, .int .i64 v, .int .i64 th]
  go_enter Tryd.func8, Tryd.ntmps8
  go_wp2_with fail
  have HT0 := Lib.hid (HT.out.below HBX.out)
  have HE0 := Lib.hid (HE.out.below HBX.out)
  have HB0 := Lib.hid HBX.out
  clear HBX HT HE
  generalize w.alloc (.cells #[.int .i64 u, .int .i64 v, .int .i64 th] 33) = w0 at *
  with_reducible refine (small_ok w0 n ao m cap).mono ?_
  rintro e w1 ⟨rfl, rfl⟩
  cases smB n m with
  | false =>
    go_wp2_with fail
    with_reducible refine (mworks_ok w0 HT0.out).mono ?_
    rintro e w9 ⟨rfl, hb⟩
    have HB9 := Lib.hid (bel_then HB0.out hb)
    clear hb
    go_wp2_with fail
    go_ret
    exact ⟨rfl, HB9.out⟩
  | true =>
    go_wp2_with fail
    with_reducible refine (mnew_ok w0 n ao m cap b off l HE0.out hm HNIL.out H64.out).mono ?_
    rintro e w1 ⟨hbad, hok, hb⟩
    have HB1 := Lib.hid (bel_then HB0.out hb)
    have HT1 := Lib.hid (HT0.out.below hb)
    have HX1 := Lib.hid (HX.out.below hb HX.out.lt)
    have HE1 := Lib.hid (HE0.out.below hb)
    have HN := Lib.hid (r2new_ok w1 n ao m cap b off l HE1.out hm HNIL.out H64.out)
    obtain ⟨pa, z, rfl, hpk⟩ : ∃ pa z, e = .returned (.tuple #[.pointer pa, .int .i64 z]) ∧ ∀ e' w', R2Post w1 n l e' w' → ∃ pb z' m1 m2 j, e' = .returned (.tuple #[.pointer pb, .int .i64 z']) ∧ DtPack w' pa pb u v th m1 m2 j := by
      by_cases h0 : newErr n l = 0
      · obtain ⟨M, rfl, hM⟩ := hok h0
        refine ⟨_, _, rfl, fun e' w' hp => ?_⟩
        obtain ⟨f, g, rfl, hR⟩ := hp.ok h0
        obtain ⟨k, rfl, hg⟩ := GOk.of_err h0
        rw [Int.toNat_natCast] at hM hR
        exact ⟨_, _, _, _, _, rfl, DtPack.of (hM.below hp.bel) hR hg HW.out (HT1.out.below hp.bel) u v th HTH.out.1⟩
      · obtain rfl := hbad h0
        exact ⟨_, _, rfl, fun e' w' hp => ⟨_, _, _, _, _, hp.bad h0, DtPack.nil w' u v th⟩⟩
    have HPK := Lib.hid hpk
    clear hbad hok hpk hb HT0 HE0 HB0 HX HE1
    go_wp2_with fail
    with_reducible refine HN.out.mono ?_
    intro e w2 hp
    obtain ⟨pb, z', m1, m2, j, rfl, hpk⟩ := HPK.out _ _ hp
    have HP := Lib.hid hpk
    have HB2 := Lib.hid (bel_then HB1.out hp.bel)
    have HT2 := Lib.hid (HT1.out.below hp.bel)
    have HX2 := Lib.hid (HX1.out.below hp.bel HX1.out.lt)
    clear hp hpk HPK HN HB1 HT1 HX1
    have c0 := HX2.out.cell (i := 0) rfl
    have c1 := HX2.out.cell (i := 1) rfl
    go_wp2_with fail
    with_reducible refine (HP.out.a1 w2 (Below.refl _ _)).mono ?_
    rintro e w3 ⟨rfl, hb⟩
    have HB3 := Lib.hid (bel_then HB2.out hb)
    have HQ3 := Lib.hid hb
    have HX3 := Lib.hid (HX2.out.below hb HX2.out.lt)
    clear hb c0 c1
    unfold intR
    have c0 := HX3.out.cell (i := 0) rfl
    have c1 := HX3.out.cell (i := 1) rfl
    go_wp2_with fail
    with_reducible refine (HP.out.a2 w3 HQ3.out).mono ?_
    rintro e w4 ⟨rfl, hb⟩
    have HB4 := Lib.hid (bel_then HB3.out hb)
    have HQ4 := Lib.hid (bel_then HQ3.out hb)
    have HX4 := Lib.hid (HX3.out.below hb HX3.out.lt)
    clear hb c0 c1 HX2 HX3 HB2 HB3 HQ3
    unfold intR
    have c0 := HX4.out.cell (i := 0) rfl
    have c1 := HX4.out.cell (i := 1) rfl
    go_wp2_with fail
    with_reducible refine (HP.out.b1 w4 HQ4.out).mono ?_
    rintro e w5 ⟨rfl, hb⟩
    have HB5 := Lib.hid (bel_then HB4.out hb)
    have HQ5 := Lib.hid (bel_then HQ4.out hb)
    have HX5 := Lib.hid (HX4.out.below hb HX4.out.lt)
    clear hb c0 c1 HX4 HB4 HQ4
    unfold comR
    have c0 := HX5.out.cell (i := 0) rfl
    have c1 := HX5.out.cell (i := 1) rfl
    go_wp2_with fail
    with_reducible refine (HP.out.b2 w5 HQ5.out).mono ?_
    rintro e w6 ⟨rfl, hb⟩
    have HB6 := Lib.hid (bel_then HB5.out hb)
    have HQ6 := Lib.hid (bel_then HQ5.out hb)
    have HX6 := Lib.hid (HX5.out.below hb HX5.out.lt)
    clear hb c0 c1 HX5 HB5 HQ5
    unfold comR
    have c0 := HX6.out.cell (i := 0) rfl
    have c1 := HX6.out.cell (i := 1) rfl
    have c2 := HX6.out.cell (i := 2) rfl
    have HT6 := Lib.hid (HT2.out.below HQ6.out)
    have HK1 : Hid (∀ d os, Calls Tryd.prog 25 #[.pointer pa, .int .i64 u, .int .i64 v, .int .i64 th] (grow (redrawn w6 d) os) (fun e w' => e = .returned (.bool j) ∧ Below (grow (redrawn w6 d) os).heap.size (grow (redrawn w6 d) os) w')) := fun d os => (HP.out.c1 _ (bel_then HQ6.out (below_regrown w6 d os))).mono fun _ _ ⟨he, hb⟩ => ⟨he, hb⟩
    have HK2 : Hid (∀ d os, Calls Tryd.prog 26 #[.pointer pb, .int .i64 u, .int .i64 v, .int .i64 th] (grow (redrawn w6 d) os) (fun e w' => e = .returned (.bool j) ∧ Below (grow (redrawn w6 d) os).heap.size (grow (redrawn w6 d) os) w')) := fun d os => (HP.out.c2 _ (bel_then HQ6.out (below_regrown w6 d os))).mono fun _ _ ⟨he, hb⟩ => ⟨he, hb⟩
    have HK3 : Hid (∀ d os, Calls Tryd.prog 14 #[] (grow (redrawn w6 d) os) (fun e w' => e = .returned (.bool true) ∧ Below (grow (redrawn w6 d) os).heap.size (grow (redrawn w6 d) os) w')) := fun d os => (mworks_ok _ (HT6.out.below (below_regrown w6 d os))).mono fun _ _ ⟨he, hb⟩ => ⟨he, hb⟩
    clear HP HQ6 HT6 HX6 HT2
    generalize m1.getD 0 = x1 at *
    generalize m1.isSome = y1 at *
    generalize m2.getD 0 = x2 at *
    generalize m2.isSome = y2 at *
    have t1 : (x1 == x1) = true := by simp
    have t2 : (y1 == y1) = true := by simp
    have t3 : ((x2 : Int) == (x2 : Int)) = true := by simp
    have t4 : (y2 == y2) = true := by simp
    have t5 : (j == j) = true := by simp
    go_wp2_with fail
    replace c0 := cell_regrown c0
    replace c1 := cell_regrown c1
    replace c2 := cell_regrown c2
    refine wp_region_quiet_below (by kernel_rfl) (by kernel_rfl) ?_
    repeat (go_big_quiet_step ((first | (go_at_call 25; exact Calls.regrown_of (HK1.out _ _)) | (go_at_call 26; exact Calls.regrown_of (HK2.out _ _)) | (go_at_call 14; exact Calls.regrown_of (HK3.out _ _)))))
    refine wpQuiet_nil ?_
    intro w7 hw7
    obtain ⟨⟨dq, osq⟩, hw7⟩ := hw7
    have HB7 : Hid (Below w.heap.size w w7) := by rw [hw7]; exact bel_then HB6.out (below_regrown w6 dq osq)
    clear hw7 HK1 HK2 HK3
    go_wp2_with fail
    go_ret
    exact ⟨rfl, HB7.out⟩

end Go.Proofs.YtenhbfbfkcjimaaDoor
