/- The statement MinimaxCounts: the walk. -/
import Derived.Test.YtenhbfbfkcjimaaDoorZMgN
import Derived.Test.YtenhbfbfkcjimaaDoorZMgO
import Derived.Lib.QuietBelow
namespace Go.Proofs.YtenhbfbfkcjimaaDoor
set_option linter.unusedVariables false
set_option linter.unusedSimpArgs false
open Go.RowKit Go.Shelf Go.Sort
attribute [local go_sem] Oper.semAt_some

/-- Both finders, as the rest of the statement sees them. -/
structure CtPack (w : World) (pa pb : Option Addr) (u th : Int) (s : Far) (c : Nat) : Prop where
  f1 : ∀ W, Below w.heap.size w W → Calls Tryd.prog 27 #[.pointer pa, .int .i64 u] W (RetB (farR s) W)
  f2 : ∀ W, Below w.heap.size w W → Calls Tryd.prog 28 #[.pointer pb, .int .i64 u] W (RetB (farR s) W)
  c1 : ∀ W, Below w.heap.size w W → Calls Tryd.prog 22 #[.pointer pa, .int .i64 th] W (RetB (.int .i64 (c : Int)) W)
  c2 : ∀ W, Below w.heap.size w W → Calls Tryd.prog 29 #[.pointer pb, .int .i64 th] W (RetB (.int .i64 (c : Int)) W)

theorem CtPack.nil (w : World) (u th : Int) : CtPack w none none u th ⟨0, 0, false⟩ 0 :=
  ⟨fun W _ => farthest_no W _ ⟨_, rfl⟩ u ((show NilF (.pointer none) W from .inl rfl).noHas u), fun W _ => rfarthest_nil W u, fun W _ => count_nil W _ (.inl rfl) th, fun W _ => r2count_nil W th⟩

theorem CtPack.of {w : World} {M : MB} {f g n : Nat} {l : List Ed} (hM : MObj w M n l) (hR : R2Obj w f g n l) (hg : GOk n l) (hw : WOk l) (hT : Tab64 w) (u th : Int) : CtPack w (some ⟨M.f, 0, none⟩) (some ⟨f, 0, none⟩) u th (farA n l u) (cntT (bdL n l) n th (n + FN n l)) :=
  ⟨fun W hb => farthest_any W M n l (hM.below hb) hg (hT.below hb) u, fun W hb => rfarthest_ok W f g n l (hR.below hb) hg hw u, fun W hb => count_ok W M n l (hM.below hb) hg th, fun W hb => r2count_ok W f g n l (hR.below hb) hg th⟩

set_option maxHeartbeats 16000000 in
set_option maxRecDepth 100000 in
theorem counts_law (w : World) (hT : Tab64 w) (n : Int) (ao : Option Addr) (m cap b off : Nat) (l : List Ed) (he : ERow w ao m b off l) (hm : m ≤ 9223372036854775807) (hnil : ao = none → cap = 0) (hn64 : -9223372036854775808 ≤ n ∧ n ≤ 9223372036854775807) (hw : WOk l) (u v th : Int) :
    Calls Tryd.prog 10 #[.int .i64 n, .slice ao m cap, .agg #[.int .i64 u, .int .i64 v, .int .i64 th]] w (RetB (.bool true) w) := by
  have HE := Lib.hid he
  have HNIL := Lib.hid hnil
  have H64 := Lib.hid hn64
  have HT := Lib.hid hT
  have HW := Lib.hid hw
  clear he hnil hn64 hT hw
  have HBX := Lib.hid (bel_alloc w (.cells #[.int .i64 u, .int .i64 v, .int .i64 th] 33))
  have HX : Hid (Blk (w.alloc (.cells #[.int .i64 u, .int .i64 v, .int .i64 th] 33)) w.heap.size 33 [.int .i64 u, .int .i64 v, .int .i64 th]) := Blk.new w 33 [.int .i64 u, .int .i64 v, .int .i64 th]
  go_enter Tryd.func10, Tryd.ntmps10
  go_wp2_with fail
  have HT0 := Lib.hid (HT.out.below HBX.out)
  have HE0 := Lib.hid (HE.out.below HBX.out)
  have HB0 := Lib.hid HBX.out
  clear HBX HT HE
  generalize w.alloc (.cells #[.int .i64 u, .int .i64 v, .int .i64 th] 33) = w0 at *
  with_reducible refine (small_ok w0 n ao m cap).mono ?_
  rintro e w1 ⟨rfl, rfl⟩
  cases smB n m with
  | false =>
    go_wp2_with fail
    with_reducible refine (mworks_ok w0 HT0.out).mono ?_
    rintro e w9 ⟨rfl, hb⟩
    have HB9 := Lib.hid (bel_then HB0.out hb)
    clear hb
    go_wp2_with fail
    go_ret
    exact ⟨rfl, HB9.out⟩
  | true =>
    go_wp2_with fail
    with_reducible refine (mnew_ok w0 n ao m cap b off l HE0.out hm HNIL.out H64.out).mono ?_
    rintro e w1 ⟨hbad, hok, hb⟩
    have HB1 := Lib.hid (bel_then HB0.out hb)
    have HT1 := Lib.hid (HT0.out.below hb)
    have HX1 := Lib.hid (HX.out.below hb HX.out.lt)
    have HE1 := Lib.hid (HE0.out.below hb)
    have HN := Lib.hid (r2new_ok w1 n ao m cap b off l HE1.out hm HNIL.out H64.out)
    obtain ⟨pa, z, rfl, hpk⟩ : ∃ pa z, e = .returned (.tuple #[.pointer pa, .int .i64 z]) ∧ ∀ e' w', R2Post w1 n l e' w' → ∃ pb z' s c, e' = .returned (.tuple #[.pointer pb, .int .i64 z']) ∧ CtPack w' pa pb u th s c := by
      by_cases h0 : newErr n l = 0
      · obtain ⟨M, rfl, hM⟩ := hok h0
        refine ⟨_, _, rfl, fun e' w' hp => ?_⟩
        obtain ⟨f, g, rfl, hR⟩ := hp.ok h0
        obtain ⟨k, rfl, hg⟩ := GOk.of_err h0
        rw [Int.toNat_natCast] at hM hR
        exact ⟨_, _, _, _, rfl, CtPack.of (hM.below hp.bel) hR hg HW.out (HT1.out.below hp.bel) u th⟩
      · obtain rfl := hbad h0
        exact ⟨_, _, rfl, fun e' w' hp => ⟨_, _, _, _, hp.bad h0, CtPack.nil w' u th⟩⟩
    have HPK := Lib.hid hpk
    clear hbad hok hpk hb HT0 HE0 HB0 HX HE1
    go_wp2_with fail
    with_reducible refine HN.out.mono ?_
    intro e w2 hp
    obtain ⟨pb, z', s, c, rfl, hpk⟩ := HPK.out _ _ hp
    have HP := Lib.hid hpk
    have HB2 := Lib.hid (bel_then HB1.out hp.bel)
    have HT2 := Lib.hid (HT1.out.below hp.bel)
    have HX2 := Lib.hid (HX1.out.below hp.bel HX1.out.lt)
    clear hp hpk HPK HN HB1 HT1 HX1
    have c0 := HX2.out.cell (i := 0) rfl
    go_wp2_with fail
    with_reducible refine (HP.out.f1 w2 (Below.refl _ _)).mono ?_
    rintro e w3 ⟨rfl, hb⟩
    have HB3 := Lib.hid (bel_then HB2.out hb)
    have HQ3 := Lib.hid hb
    have HX3 := Lib.hid (HX2.out.below hb HX2.out.lt)
    clear hb c0
    unfold farR
    have c0 := HX3.out.cell (i := 0) rfl
    go_wp2_with fail
    with_reducible refine (HP.out.f2 w3 HQ3.out).mono ?_
    rintro e w4 ⟨rfl, hb⟩
    have HB4 := Lib.hid (bel_then HB3.out hb)
    have HQ4 := Lib.hid (bel_then HQ3.out hb)
    have HX4 := Lib.hid (HX3.out.below hb HX3.out.lt)
    clear hb c0
    unfold farR
    have c2 := HX4.out.cell (i := 2) rfl
    have HT4 := Lib.hid (HT2.out.below HQ4.out)
    have HK1 : Hid (∀ d os, Calls Tryd.prog 22 #[.pointer pa, .int .i64 th] (grow (redrawn w4 d) os) (fun e w' => e = .returned (.int .i64 (c : Int)) ∧ Below (grow (redrawn w4 d) os).heap.size (grow (redrawn w4 d) os) w')) := fun d os => (HP.out.c1 _ (bel_then HQ4.out (below_regrown w4 d os))).mono fun _ _ ⟨he, hb⟩ => ⟨he, hb⟩
    have HK2 : Hid (∀ d os, Calls Tryd.prog 29 #[.pointer pb, .int .i64 th] (grow (redrawn w4 d) os) (fun e w' => e = .returned (.int .i64 (c : Int)) ∧ Below (grow (redrawn w4 d) os).heap.size (grow (redrawn w4 d) os) w')) := fun d os => (HP.out.c2 _ (bel_then HQ4.out (below_regrown w4 d os))).mono fun _ _ ⟨he, hb⟩ => ⟨he, hb⟩
    have HK3 : Hid (∀ d os, Calls Tryd.prog 14 #[] (grow (redrawn w4 d) os) (fun e w' => e = .returned (.bool true) ∧ Below (grow (redrawn w4 d) os).heap.size (grow (redrawn w4 d) os) w')) := fun d os => (mworks_ok _ (HT4.out.below (below_regrown w4 d os))).mono fun _ _ ⟨he, hb⟩ => ⟨he, hb⟩
    clear HP HQ4 HT4 HX4 HT2 HQ3 HX3 HX2 HB2 HB3
    obtain ⟨sv, st, so⟩ := s
    simp only
    have t1 : ((sv : Int) == (sv : Int)) = true := by simp
    have t2 : (st == st) = true := by simp
    have t3 : (so == so) = true := by simp
    have t4 : ((c : Int) == (c : Int)) = true := by simp
    go_wp2_with fail
    replace c2 := cell_regrown c2
    refine wp_region_quiet_below (by kernel_rfl) (by kernel_rfl) ?_
    repeat (go_big_quiet_step ((first | (go_at_call 22; exact Calls.regrown_of (HK1.out _ _)) | (go_at_call 29; exact Calls.regrown_of (HK2.out _ _)) | (go_at_call 14; exact Calls.regrown_of (HK3.out _ _)))))
    refine wpQuiet_nil ?_
    intro w5 hw5
    obtain ⟨⟨dq, osq⟩, hw5⟩ := hw5
    have HB5 : Hid (Below w.heap.size w w5) := by rw [hw5]; exact bel_then HB4.out (below_regrown w4 dq osq)
    clear hw5 HK1 HK2 HK3
    go_wp2_with fail
    go_ret
    exact ⟨rfl, HB5.out⟩

end Go.Proofs.YtenhbfbfkcjimaaDoor
