/- The reference of layer 20: New; small. The reference of layer 13: valid, Has, Count. -/
import Derived.Test.YtenhbfbfkcjimaaDoorZMmW
import Derived.Test.YtenhbfbfkcjimaaDoorZMgK
namespace Go.Proofs.YtenhbfbfkcjimaaDoor
set_option linter.unusedVariables false
set_option linter.unusedSimpArgs false
open Go.RowKit

/-- The reference's finder. -/
structure R2Obj (w : World) (f g n : Nat) (l : List Ed) : Prop where
  f : Blk w f 79 [.pointer (some ⟨g, 0, none⟩)]
  g : RGObj w g n l
theorem R2Obj.below {w w' : World} {f g n : Nat} {l : List Ed} (h : R2Obj w f g n l) (hb : Below w.heap.size w w') : R2Obj w' f g n l := ⟨h.f.below hb h.f.lt, h.g.below hb⟩

structure R2Post (w : World) (n : Int) (l : List Ed) (e : Ending) (w' : World) : Prop where
  bad : newErr n l ≠ 0 → e = .returned (.tuple #[.pointer none, .int .i64 (newErr n l)])
  ok : newErr n l = 0 → ∃ f g, e = .returned (.tuple #[.pointer (some ⟨f, 0, none⟩), .int .i64 0]) ∧ R2Obj w' f g n.toNat l
  bel : Below w.heap.size w w'

set_option maxHeartbeats 4000000 in
theorem r2new_ok (w : World) (n : Int) (ao : Option Addr) (m cap b off : Nat) (l : List Ed) (he : ERow w ao m b off l) (hm : m ≤ 9223372036854775807) (hnil : ao = none → cap = 0) (hn64 : -9223372036854775808 ≤ n ∧ n ≤ 9223372036854775807) :
    Calls Tryd.prog 16 #[.int .i64 n, .slice ao m cap] w (R2Post w n l) := by
  have HX := Lib.hid (rnew_ok w n ao m cap b off l he hm hnil hn64)
  clear he hnil hn64
  go_enter Tryd.func16, Tryd.ntmps16
  go_wp2_with fail
  with_reducible refine HX.out.mono ?_
  rintro e w1 ⟨⟨p, rfl, h1, h2⟩, hb⟩
  have HB := Lib.hid hb
  clear hb HX
  by_cases h0 : newErr n l = 0
  · obtain ⟨g, rfl, hg⟩ := h2 h0
    have HG := Lib.hid hg
    have H0 := Lib.hid h0
    rw [h0]
    clear h1 h2 hg h0
    go_wp2_with fail
    go_ret2
    exact ⟨fun h => absurd H0.out h, fun _ => ⟨w1.heap.size, g, rfl, Blk.new w1 _ [_], HG.out.below (bel_alloc w1 _)⟩, bel_then HB.out (bel_alloc w1 _)⟩
  · obtain rfl := h1 h0
    have t0 : (newErr n l != 0) = true := by simp [h0]
    have HE : Hid (∀ z, newErr n l = z → R2Post w n l (.returned (.tuple #[.pointer none, .int .i64 z])) w1) := fun z hz => ⟨fun _ => by rw [hz], fun h => absurd h h0, HB.out⟩
    clear h1 h2 h0
    generalize newErr n l = z at *
    go_wp2_with fail
    go_ret2
    exact HE.out z rfl

def smB (n : Int) (m : Nat) : Bool := decide (n ≤ 24) && decide (m ≤ 60)
set_option maxHeartbeats 1000000 in
theorem small_ok (w : World) (n : Int) (ao : Option Addr) (m cap : Nat) : Calls Tryd.prog 13 #[.int .i64 n, .slice ao m cap] w (Ret (.bool (smB n m)) w) := by
  by_cases h1 : n ≤ 24
  · have t1 : decide (n ≤ 24) = true := decide_eq_true h1
    have HS : Hid (smB n m = decide (m ≤ 60)) := by show _ = _; unfold smB; rw [t1]; rfl
    have e : decide ((m : Int) ≤ 60) = decide (m ≤ 60) := by
      by_cases h : m ≤ 60
      · rw [decide_eq_true h, decide_eq_true (by omega)]
      · rw [decide_eq_false h, decide_eq_false (by omega)]
    rw [← e] at HS
    clear h1 e
    go_enter Tryd.func13, Tryd.ntmps13
    go_wp2_with fail
    go_ret
    exact ⟨by rw [HS.out]; rfl, rfl⟩
  · have t1 : decide (n ≤ 24) = false := decide_eq_false h1
    have HS : Hid (smB n m = false) := by show _ = _; unfold smB; rw [t1]; rfl
    clear h1
    go_enter Tryd.func13, Tryd.ntmps13
    go_wp2_with fail
    go_ret
    exact ⟨by rw [HS.out]; first | rfl | simp [t1], rfl⟩

set_option maxHeartbeats 400000 in
theorem rvalid_ok (w : World) (g : Nat) (h0 : w.cell? ⟨g, 0, none⟩ = some (.bool true)) : Calls Tryd.prog 54 #[.pointer (some ⟨g, 0, none⟩)] w (Ret (.bool true) w) := by
  go_enter Tryd.func54, Tryd.ntmps54
  go_wp2_with fail
  go_ret
  exact ⟨rfl, rfl⟩

set_option maxHeartbeats 400000 in
theorem rcount_ok (w : World) (g n : Nat) (l : List Ed) (h : RGObj w g n l) : Calls Tryd.prog 38 #[.pointer (some ⟨g, 0, none⟩)] w (Ret (.int .i64 n) w) := by
  obtain ⟨ao, cap, b, hb, _⟩ := h.ex
  have c0 := hb.cell (i := 0) rfl
  have c1 := hb.cell (i := 1) rfl
  clear h hb
  go_enter Tryd.func38, Tryd.ntmps38
  go_wp2_with fail
  with_reducible refine (rvalid_ok w g c0).mono ?_
  rintro e w1 ⟨rfl, rfl⟩
  go_wp2_with fail
  go_ret
  exact ⟨rfl, rfl⟩

set_option maxHeartbeats 1000000 in
theorem rghas_ok (w : World) (g n : Nat) (l : List Ed) (h : RGObj w g n l) (v : Int) : Calls Tryd.prog 53 #[.pointer (some ⟨g, 0, none⟩), .int .i64 v] w (Ret (.bool (inB v n)) w) := by
  obtain ⟨ao, cap, b, hb, _⟩ := h.ex
  have c0 := hb.cell (i := 0) rfl
  have c1 := hb.cell (i := 1) rfl
  clear h hb
  by_cases hv : 0 ≤ v
  · have e1 : decide (0 ≤ v) = true := by simpa using hv
    have HIN : Hid (inB v n = decide (v < (n : Int))) := by show _ = _; unfold inB; rw [e1, Bool.true_and]
    go_enter Tryd.func53, Tryd.ntmps53
    go_wp2_with fail
    with_reducible refine (rvalid_ok w g c0).mono ?_
    rintro e w1 ⟨rfl, rfl⟩
    go_wp2_with fail
    go_ret
    rw [HIN.out]
    exact ⟨rfl, rfl⟩
  · have e1 : decide (0 ≤ v) = false := by simpa using hv
    have HIN : Hid (inB v n = false) := by show _ = _; unfold inB; rw [e1, Bool.false_and]
    go_enter Tryd.func53, Tryd.ntmps53
    go_wp2_with fail
    with_reducible refine (rvalid_ok w g c0).mono ?_
    rintro e w1 ⟨rfl, rfl⟩
    go_wp2_with fail
    go_ret
    rw [HIN.out]
    exact ⟨rfl, rfl⟩

set_option maxHeartbeats 1000000 in
theorem r2has_ok (w : World) (f g n : Nat) (l : List Ed) (h : R2Obj w f g n l) (v : Int) : Calls Tryd.prog 35 #[.pointer (some ⟨f, 0, none⟩), .int .i64 v] w (Ret (.bool (inB v n)) w) := by
  have c0 := h.f.cell (i := 0) rfl
  have HG := Lib.hid h.g
  clear h
  go_enter Tryd.func35, Tryd.ntmps35
  go_wp2_with fail
  with_reducible refine (rghas_ok w g n l HG.out v).mono ?_
  rintro e w1 ⟨rfl, rfl⟩
  go_wp2_with fail
  go_ret
  exact ⟨rfl, rfl⟩

set_option maxHeartbeats 16000000 in
set_option maxRecDepth 100000 in
theorem news_law (w : World) (hT : Tab64 w) (n : Int) (ao : Option Addr) (m cap b off : Nat) (l : List Ed) (he : ERow w ao m b off l) (hm : m ≤ 9223372036854775807) (hnil : ao = none → cap = 0) (hn64 : -9223372036854775808 ≤ n ∧ n ≤ 9223372036854775807) :
    Calls Tryd.prog 3 #[.int .i64 n, .slice ao m cap] w (RetB (.bool true) w) := by
  have HE := Lib.hid he
  have HNIL := Lib.hid hnil
  have H64 := Lib.hid hn64
  have HT := Lib.hid hT
  clear he hnil hn64 hT
  obtain ⟨sb, hsb⟩ : ∃ q, (decide (n ≤ 4096) && !(smB n m)) = q := ⟨_, rfl⟩
  have HSB := Lib.hid hsb
  clear hsb
  go_enter Tryd.func3, Tryd.ntmps3
  go_upto_region 1 with fail
  go_cut [16] (fun s wx => s = .bool sb ∧ w = wx)
  case first =>
    by_cases h1 : n ≤ 4096
    · have t1 : decide (n ≤ 4096) = true := decide_eq_true h1
      have hq := HSB.out
      rw [t1, Bool.true_and] at hq
      clear HSB h1
      go_wp2_with fail
      with_reducible refine (small_ok w n ao m cap).mono ?_
      rintro e w1 ⟨rfl, rfl⟩
      generalize smB n m = q at *
      subst hq
      go_wp2_with fail
      go_meet
      exact ⟨rfl, rfl⟩
    · have t1 : decide (n ≤ 4096) = false := decide_eq_false h1
      have hq := HSB.out
      rw [t1, Bool.false_and] at hq
      subst hq
      clear HSB h1
      go_wp2_with fail
      go_meet
      exact ⟨rfl, rfl⟩
  case rest =>
    obtain ⟨rfl, rfl⟩ := hcut
    clear HSB
    cases sb with
    | true =>
      go_wp2_with fail
      with_reducible refine (mworks_ok w HT.out).mono ?_
      rintro e w2 ⟨rfl, hb⟩
      have HB := Lib.hid hb
      clear hb
      go_wp2_with fail
      go_ret
      exact ⟨rfl, HB.out⟩
    | false =>
      go_wp2_with fail
      with_reducible refine (mnew_ok w n ao m cap b off l HE.out hm HNIL.out H64.out).mono ?_
      rintro e w1 ⟨hbad, hok, hb⟩
      have HB1 := Lib.hid hb
      have HT1 := Lib.hid (HT.out.below hb)
      have HE1 := Lib.hid (HE.out.below hb)
      clear hb HT HE
      by_cases h0 : newErr n l = 0
      · obtain ⟨M, rfl, hM⟩ := hok h0
        have H0 := Lib.hid h0
        clear hbad hok h0 hM
        go_wp2_with fail
        with_reducible refine (r2new_ok w1 n ao m cap b off l HE1.out hm HNIL.out H64.out).mono ?_
        rintro e w2 ⟨hbad, hok, hb⟩
        obtain ⟨f, g, rfl, hR⟩ := hok H0.out
        have HB2 := Lib.hid (bel_then HB1.out hb)
        have HT2 := Lib.hid (HT1.out.below hb)
        clear hbad hok hb hR HE1 H0
        go_wp2_with fail
        with_reducible refine (mworks_ok w2 HT2.out).mono ?_
        rintro e w9 ⟨rfl, hb⟩
        have HB9 := Lib.hid (bel_then HB2.out hb)
        clear hb
        go_wp2_with fail
        go_ret
        exact ⟨rfl, HB9.out⟩
      · obtain rfl := hbad h0
        have HR := Lib.hid (r2new_ok w1 n ao m cap b off l HE1.out hm HNIL.out H64.out)
        have HBAD : Hid (∀ e w', R2Post w1 n l e w' → e = .returned (.tuple #[.pointer none, .int .i64 (newErr n l)]) ∧ Below w1.heap.size w1 w') := fun e w' h => ⟨h.bad h0, h.bel⟩
        clear hbad hok h0 HE1
        generalize newErr n l = z at *
        have t0 : (z == z) = true := by simp
        go_wp2_with fail
        with_reducible refine HR.out.mono ?_
        intro e w2 hp
        obtain ⟨rfl, hb⟩ := HBAD.out _ _ hp
        have HB2 := Lib.hid (bel_then HB1.out hb)
        have HT2 := Lib.hid (HT1.out.below hb)
        clear hp hb HR HBAD
        go_wp2_with fail
        with_reducible refine (mworks_ok w2 HT2.out).mono ?_
        rintro e w9 ⟨rfl, hb⟩
        have HB9 := Lib.hid (bel_then HB2.out hb)
        clear hb
        go_wp2_with fail
        go_ret
        exact ⟨rfl, HB9.out⟩

end Go.Proofs.YtenhbfbfkcjimaaDoor
