/- Several texts in one: RwA, RwU, RwL, RwM, RwE, RwJ. -/
import Derived.Test.YtenhbfbfkcjimaaDoorZMmW
import Derived.Test.YtenhbfbfkcjimaaDoorZMgK
import Derived.Test.YtenhbfbfkcjimaaDoorZMgC
import Derived.Test.YtenhbfbfkcjimaaDoorZMmN
import Derived.Test.YtenhbfbfkcjimaaDoorZMgO
import Derived.Test.YtenhbfbfkcjimaaDoorZRcK
/- The reference of layer 20: New; small. The reference of layer 13: valid, Has, Count. -/
namespace Go.Proofs.YtenhbfbfkcjimaaDoor
set_option linter.unusedVariables false
set_option linter.unusedSimpArgs false
open Go.RowKit

/-- The reference's finder. -/
structure R2Obj (w : World) (f g n : Nat) (l : List Ed) : Prop where
  f : Blk w f 79 [.pointer (some ⟨g, 0, none⟩)]
  g : RGObj w g n l
theorem R2Obj.below {w w' : World} {f g n : Nat} {l : List Ed} (h : R2Obj w f g n l) (hb : Below w.heap.size w w') : R2Obj w' f g n l := ⟨h.f.below hb h.f.lt, h.g.below hb⟩

structure R2Post (w : World) (n : Int) (l : List Ed) (e : Ending) (w' : World) : Prop where
  bad : newErr n l ≠ 0 → e = .returned (.tuple #[.pointer none, .int .i64 (newErr n l)])
  ok : newErr n l = 0 → ∃ f g, e = .returned (.tuple #[.pointer (some ⟨f, 0, none⟩), .int .i64 0]) ∧ R2Obj w' f g n.toNat l
  bel : Below w.heap.size w w'

set_option maxHeartbeats 4000000 in
theorem r2new_ok (w : World) (n : Int) (ao : Option Addr) (m cap b off : Nat) (l : List Ed) (he : ERow w ao m b off l) (hm : m ≤ 9223372036854775807) (hnil : ao = none → cap = 0) (hn64 : -9223372036854775808 ≤ n ∧ n ≤ 9223372036854775807) :
    Calls Tryd.prog 16 #[.int .i64 n, .slice ao m cap] w (R2Post w n l) := by
  have HX := Lib.hid (rnew_ok w n ao m cap b off l he hm hnil hn64)
  clear he hnil hn64
  go_enter Tryd.func16, Tryd.ntmps16
  go_wp2_with fail
  with_reducible refine HX.out.mono ?_
  rintro e w1 ⟨⟨p, rfl, h1, h2⟩, hb⟩
  have HB := Lib.hid hb
  clear hb HX
  by_cases h0 : newErr n l = 0
  · obtain ⟨g, rfl, hg⟩ := h2 h0
    have HG := Lib.hid hg
    have H0 := Lib.hid h0
    rw [h0]
    clear h1 h2 hg h0
    go_wp2_with fail
    go_ret2
    exact ⟨fun h => absurd H0.out h, fun _ => ⟨w1.heap.size, g, rfl, Blk.new w1 _ [_], HG.out.below (bel_alloc w1 _)⟩, bel_then HB.out (bel_alloc w1 _)⟩
  · obtain rfl := h1 h0
    have t0 : (newErr n l != 0) = true := by simp [h0]
    have HE : Hid (∀ z, newErr n l = z → R2Post w n l (.returned (.tuple #[.pointer none, .int .i64 z])) w1) := fun z hz => ⟨fun _ => by rw [hz], fun h => absurd h h0, HB.out⟩
    clear h1 h2 h0
    generalize newErr n l = z at *
    go_wp2_with fail
    go_ret2
    exact HE.out z rfl

def smB (n : Int) (m : Nat) : Bool := decide (n ≤ 24) && decide (m ≤ 60)
set_option maxHeartbeats 1000000 in
theorem small_ok (w : World) (n : Int) (ao : Option Addr) (m cap : Nat) : Calls Tryd.prog 13 #[.int .i64 n, .slice ao m cap] w (Ret (.bool (smB n m)) w) := by
  by_cases h1 : n ≤ 24
  · have t1 : decide (n ≤ 24) = true := decide_eq_true h1
    have HS : Hid (smB n m = decide (m ≤ 60)) := by show _ = _; unfold smB; rw [t1]; rfl
    have e : decide ((m : Int) ≤ 60) = decide (m ≤ 60) := by
      by_cases h : m ≤ 60
      · rw [decide_eq_true h, decide_eq_true (by omega)]
      · rw [decide_eq_false h, decide_eq_false (by omega)]
    rw [← e] at HS
    clear h1 e
    go_enter Tryd.func13, Tryd.ntmps13
    go_wp2_with fail
    go_ret
    exact ⟨by rw [HS.out]; rfl, rfl⟩
  · have t1 : decide (n ≤ 24) = false := decide_eq_false h1
    have HS : Hid (smB n m = false) := by show _ = _; unfold smB; rw [t1]; rfl
    clear h1
    go_enter Tryd.func13, Tryd.ntmps13
    go_wp2_with fail
    go_ret
    exact ⟨by rw [HS.out]; first | rfl | simp [t1], rfl⟩

set_option maxHeartbeats 400000 in
theorem rvalid_ok (w : World) (g : Nat) (h0 : w.cell? ⟨g, 0, none⟩ = some (.bool true)) : Calls Tryd.prog 54 #[.pointer (some ⟨g, 0, none⟩)] w (Ret (.bool true) w) := by
  go_enter Tryd.func54, Tryd.ntmps54
  go_wp2_with fail
  go_ret
  exact ⟨rfl, rfl⟩

set_option maxHeartbeats 400000 in
theorem rcount_ok (w : World) (g n : Nat) (l : List Ed) (h : RGObj w g n l) : Calls Tryd.prog 38 #[.pointer (some ⟨g, 0, none⟩)] w (Ret (.int .i64 n) w) := by
  obtain ⟨ao, cap, b, hb, _, _⟩ := h.ex
  have c0 := hb.cell (i := 0) rfl
  have c1 := hb.cell (i := 1) rfl
  clear h hb
  go_enter Tryd.func38, Tryd.ntmps38
  go_wp2_with fail
  with_reducible refine (rvalid_ok w g c0).mono ?_
  rintro e w1 ⟨rfl, rfl⟩
  go_wp2_with fail
  go_ret
  exact ⟨rfl, rfl⟩

set_option maxHeartbeats 1000000 in
theorem rghas_ok (w : World) (g n : Nat) (l : List Ed) (h : RGObj w g n l) (v : Int) : Calls Tryd.prog 53 #[.pointer (some ⟨g, 0, none⟩), .int .i64 v] w (Ret (.bool (inB v n)) w) := by
  obtain ⟨ao, cap, b, hb, _, _⟩ := h.ex
  have c0 := hb.cell (i := 0) rfl
  have c1 := hb.cell (i := 1) rfl
  clear h hb
  by_cases hv : 0 ≤ v
  · have e1 : decide (0 ≤ v) = true := by simpa using hv
    have HIN : Hid (inB v n = decide (v < (n : Int))) := by show _ = _; unfold inB; rw [e1, Bool.true_and]
    go_enter Tryd.func53, Tryd.ntmps53
    go_wp2_with fail
    with_reducible refine (rvalid_ok w g c0).mono ?_
    rintro e w1 ⟨rfl, rfl⟩
    go_wp2_with fail
    go_ret
    rw [HIN.out]
    exact ⟨rfl, rfl⟩
  · have e1 : decide (0 ≤ v) = false := by simpa using hv
    have HIN : Hid (inB v n = false) := by show _ = _; unfold inB; rw [e1, Bool.false_and]
    go_enter Tryd.func53, Tryd.ntmps53
    go_wp2_with fail
    with_reducible refine (rvalid_ok w g c0).mono ?_
    rintro e w1 ⟨rfl, rfl⟩
    go_wp2_with fail
    go_ret
    rw [HIN.out]
    exact ⟨rfl, rfl⟩

set_option maxHeartbeats 1000000 in
theorem r2has_ok (w : World) (f g n : Nat) (l : List Ed) (h : R2Obj w f g n l) (v : Int) : Calls Tryd.prog 35 #[.pointer (some ⟨f, 0, none⟩), .int .i64 v] w (Ret (.bool (inB v n)) w) := by
  have c0 := h.f.cell (i := 0) rfl
  have HG := Lib.hid h.g
  clear h
  go_enter Tryd.func35, Tryd.ntmps35
  go_wp2_with fail
  with_reducible refine (rghas_ok w g n l HG.out v).mono ?_
  rintro e w1 ⟨rfl, rfl⟩
  go_wp2_with fail
  go_ret
  exact ⟨rfl, rfl⟩

set_option maxHeartbeats 16000000 in
set_option maxRecDepth 100000 in
theorem news_law (w : World) (hT : Tab64 w) (n : Int) (ao : Option Addr) (m cap b off : Nat) (l : List Ed) (he : ERow w ao m b off l) (hm : m ≤ 9223372036854775807) (hnil : ao = none → cap = 0) (hn64 : -9223372036854775808 ≤ n ∧ n ≤ 9223372036854775807) :
    Calls Tryd.prog 3 #[.int .i64 n, .slice ao m cap] w (RetB (.bool true) w) := by
  have HE := Lib.hid he
  have HNIL := Lib.hid hnil
  have H64 := Lib.hid hn64
  have HT := Lib.hid hT
  clear he hnil hn64 hT
  obtain ⟨sb, hsb⟩ : ∃ q, (decide (n ≤ 4096) && !(smB n m)) = q := ⟨_, rfl⟩
  have HSB := Lib.hid hsb
  clear hsb
  go_enter Tryd.func3, Tryd.ntmps3
  go_upto_region 1 with fail
  go_cut [16] (fun s wx => s = .bool sb ∧ w = wx)
  case first =>
    by_cases h1 : n ≤ 4096
    · have t1 : decide (n ≤ 4096) = true := decide_eq_true h1
      have hq := HSB.out
      rw [t1, Bool.true_and] at hq
      clear HSB h1
      go_wp2_with fail
      with_reducible refine (small_ok w n ao m cap).mono ?_
      rintro e w1 ⟨rfl, rfl⟩
      generalize smB n m = q at *
      subst hq
      go_wp2_with fail
      go_meet
      exact ⟨rfl, rfl⟩
    · have t1 : decide (n ≤ 4096) = false := decide_eq_false h1
      have hq := HSB.out
      rw [t1, Bool.false_and] at hq
      subst hq
      clear HSB h1
      go_wp2_with fail
      go_meet
      exact ⟨rfl, rfl⟩
  case rest =>
    obtain ⟨rfl, rfl⟩ := hcut
    clear HSB
    cases sb with
    | true =>
      go_wp2_with fail
      with_reducible refine (mworks_ok w HT.out).mono ?_
      rintro e w2 ⟨rfl, hb⟩
      have HB := Lib.hid hb
      clear hb
      go_wp2_with fail
      go_ret
      exact ⟨rfl, HB.out⟩
    | false =>
      go_wp2_with fail
      with_reducible refine (mnew_ok w n ao m cap b off l HE.out hm HNIL.out H64.out).mono ?_
      rintro e w1 ⟨hbad, hok, hb⟩
      have HB1 := Lib.hid hb
      have HT1 := Lib.hid (HT.out.below hb)
      have HE1 := Lib.hid (HE.out.below hb)
      clear hb HT HE
      by_cases h0 : newErr n l = 0
      · obtain ⟨M, rfl, hM⟩ := hok h0
        have H0 := Lib.hid h0
        clear hbad hok h0 hM
        go_wp2_with fail
        with_reducible refine (r2new_ok w1 n ao m cap b off l HE1.out hm HNIL.out H64.out).mono ?_
        rintro e w2 ⟨hbad, hok, hb⟩
        obtain ⟨f, g, rfl, hR⟩ := hok H0.out
        have HB2 := Lib.hid (bel_then HB1.out hb)
        have HT2 := Lib.hid (HT1.out.below hb)
        clear hbad hok hb hR HE1 H0
        go_wp2_with fail
        with_reducible refine (mworks_ok w2 HT2.out).mono ?_
        rintro e w9 ⟨rfl, hb⟩
        have HB9 := Lib.hid (bel_then HB2.out hb)
        clear hb
        go_wp2_with fail
        go_ret
        exact ⟨rfl, HB9.out⟩
      · obtain rfl := hbad h0
        have HR := Lib.hid (r2new_ok w1 n ao m cap b off l HE1.out hm HNIL.out H64.out)
        have HBAD : Hid (∀ e w', R2Post w1 n l e w' → e = .returned (.tuple #[.pointer none, .int .i64 (newErr n l)]) ∧ Below w1.heap.size w1 w') := fun e w' h => ⟨h.bad h0, h.bel⟩
        clear hbad hok h0 HE1
        generalize newErr n l = z at *
        have t0 : (z == z) = true := by simp
        go_wp2_with fail
        with_reducible refine HR.out.mono ?_
        intro e w2 hp
        obtain ⟨rfl, hb⟩ := HBAD.out _ _ hp
        have HB2 := Lib.hid (bel_then HB1.out hb)
        have HT2 := Lib.hid (HT1.out.below hb)
        clear hp hb HR HBAD
        go_wp2_with fail
        with_reducible refine (mworks_ok w2 HT2.out).mono ?_
        rintro e w9 ⟨rfl, hb⟩
        have HB9 := Lib.hid (bel_then HB2.out hb)
        clear hb
        go_wp2_with fail
        go_ret
        exact ⟨rfl, HB9.out⟩

end Go.Proofs.YtenhbfbfkcjimaaDoor

/- The reference of layer 13: Under. -/
namespace Go.Proofs.YtenhbfbfkcjimaaDoor
set_option linter.unusedVariables false
set_option linter.unusedSimpArgs false
open Go.RowKit

structure UgPost (w : World) (n : Nat) (l : List Ed) (e : Ending) (w' : World) : Prop where
  out : ∃ g, e = .returned (.pointer (some ⟨g, 0, none⟩)) ∧ RGObj w' g n l
  bel : Below w.heap.size w w'

/-- The new graph while it grows. -/
structure UnS (w W : World) (ob n : Nat) (l : List Ed) : Prop where
  own : ∃ v, Blk W ob 111 [.bool true, .int .i64 (n : Int), v] ∧ W.ownsRow 0 45 3 v l.length (edCells l) ∧ ∀ k, v.ownBlock = some k → w.heap.size ≤ k ∧ k ≠ ob
  bel : Below w.heap.size w W

/-- What each read of out.L = append(out.L, g.L[i]) leaves. -/
def FU (ob g b i N cap : Nat) (eu ev ew : Int) (Vu : Value) (k : Nat) (v : Value) : Prop :=
  match k with
  | 0 => v = .pointer (some ⟨ob, 0, none⟩)
  | 1 => v = .pointer (some ⟨ob, 0, none⟩)
  | 2 => v = .pointer (some ⟨ob, 0, none⟩)
  | 3 => v = .pointer (some ⟨ob, 2, none⟩)
  | 4 => v = Vu
  | 5 => v = .pointer (some ⟨g, 0, none⟩)
  | 6 => v = .pointer (some ⟨g, 0, none⟩)
  | 7 => v = .pointer (some ⟨g, 2, none⟩)
  | 8 => v = .slice (some ⟨b, 0, none⟩) N cap
  | 9 => v = .int .i64 (i : Int)
  | 10 => v = .pointer (some ⟨b, i * 3, none⟩)
  | _ => v = .agg #[.int .i64 eu, .int .i64 ev, .int .i64 ew]

/-- The world behind the append. -/
def StV (wr : World) (Vu : Value) (lu : List Ed) (eu ev ew : Int) (z : Value) (W : World) : Prop :=
  Mod (fun g => Vu.ownBlock = some g) wr W ∧ W.ownsRow 0 45 3 z (lu.length + 1) (edCells (lu ++ [⟨eu, ev, ew⟩])) ∧ ∀ g, z.ownBlock = some g → Vu.ownBlock = some g ∨ wr.heap.size ≤ g

/-- The world, stage by stage. -/
def StU (wr : World) (ob : Nat) (Vu : Value) (lu : List Ed) (eu ev ew : Int) (ys : List Value) (W : World) : Prop :=
  match ys with
  | [] => DrewOf wr W
  | [y] => W = wr.drew.alloc (.cells #[.int .i64 eu, .int .i64 ev, .int .i64 ew] 45) ∧ y = .slice (some ⟨wr.heap.size, 0, none⟩) 1 1
  | [_, z] => StV wr Vu lu eu ev ew z W
  | [_, z, p] => StV wr Vu lu eu ev ew z W ∧ p = .pointer (some ⟨ob, 0, none⟩)
  | [_, z, _, q] => StV wr Vu lu eu ev ew z W ∧ q = .pointer (some ⟨ob, 2, none⟩)
  | [_, z, _, _, _] => ∃ W1, StV wr Vu lu eu ev ew z W1 ∧ W = W1.setCell ⟨ob, 2, none⟩ z
  | _ => False

theorem edCells_app (l : List Ed) (e : Ed) : edCells (l ++ [e]) = edCells l ++ [.int .i64 e.U, .int .i64 e.V, .int .i64 e.W] := by
  unfold edCells
  rw [List.flatMap_append]; rfl

theorem StV.of {wr W w' : World} {Vu v' : Value} {lu : List Ed} {eu ev ew : Int} {rn : Nat} (hrn : lu.length = rn) (hW : W = wr.drew.alloc (.cells #[.int .i64 eu, .int .i64 ev, .int .i64 ew] 45)) (h1 : w'.ownsRow 0 45 3 v' (rn + 1) (edCells lu ++ [.int .i64 eu, .int .i64 ev, .int .i64 ew])) (h2 : W.grownBy w' Vu.ownBlock) (h3 : ∀ k, v'.ownBlock = some k → Vu.ownBlock = some k ∨ W.heap.size ≤ k) : StV wr Vu lu eu ev ew v' w' := by
  have hb : Mod (fun _ => False) wr W := by rw [hW]; exact (Mod.refl _ wr).drew.alloc _
  refine ⟨(hb.mono (fun _ _ e => e.elim)).grown h2 (fun k e _ => e), ?_, fun g hg => ?_⟩
  · rw [hrn, edCells_app]
    exact h1
  · rcases h3 g hg with e | e
    · exact .inl e
    · exact .inr (Nat.le_trans hb.size e)

set_option maxHeartbeats 16000000 in
set_option maxRecDepth 100000 in
theorem runder_ok (w : World) (g n : Nat) (l : List Ed) (h : RGObj w g n l) (hl : l.length ≤ 16384) (th : Int) : Calls Tryd.prog 44 #[.pointer (some ⟨g, 0, none⟩), .int .i64 th] w (UgPost w n (undL l th)) := by
  obtain ⟨ao, cap, b, hb, hr, _⟩ := h.ex
  have HB := Lib.hid hb
  have HR := Lib.hid hr
  have c0 := hb.cell (i := 0) rfl
  have c1 := hb.cell (i := 1) rfl
  clear h hb hr
  go_enter Tryd.func44, Tryd.ntmps44
  go_wp2_with fail
  with_reducible refine (rvalid_ok w g c0).mono ?_
  rintro e w1 ⟨rfl, rfl⟩
  have HS0 : Hid (UnS w (w.alloc (.cells #[.bool true, .int .i64 (n : Int), .slice none 0 0] 111)) w.heap.size n (undL (l.take 0) th)) := by
    refine ⟨⟨.slice none 0 0, Blk.new w _ _, World.ownsRow_nil _ _ _ _, fun k hk => by cases hk⟩, bel_alloc w _⟩
  go_wp2_with fail
  generalize w.alloc (.cells #[.bool true, .int .i64 (n : Int), .slice none 0 0] 111) = w0 at *
  go_loopw [6] (fun s wr => ∃ i : Nat, i ≤ l.length ∧ s = .int .i64 i ∧ UnS w wr w.heap.size n (undL (l.take i) th)) (fun s _ => l.length - (intOf s).toNat)
  case atStart => exact ⟨0, Nat.zero_le _, rfl, HS0.out⟩
  case round =>
    obtain ⟨i, hi, rfl, hs⟩ := hrel
    have HS := Lib.hid hs
    obtain ⟨v, hv1, hv2, hv3⟩ := hs.own
    have HV1 := Lib.hid hv1
    have HV2 := Lib.hid hv2
    have HV3 := Lib.hid hv3
    have HBW := Lib.hid hs.bel
    clear hs hv1 hv2 hv3
    have HBR := Lib.hid (HB.out.below HBW.out HB.out.lt)
    have HRR := Lib.hid (HR.out.below HBW.out)
    have x2 := HBR.out.cell (i := 2) rfl
    clear HS0 c0 c1
    by_cases him : i < l.length
    · obtain ⟨d0, d1, d2⟩ := HRR.out.cell i him
      rw [Nat.zero_add] at d0 d1 d2
      obtain rfl := HRR.out.adr (by omega)
      have HUS := Lib.hid (und_succ (th := th) him)
      obtain ⟨N, hN⟩ : ∃ N, l.length = N := ⟨_, rfl⟩
      rw [hN] at him x2
      have t1 : (i : Int) < (N : Int) := by omega
      have t0 : (0 : Int) ≤ (i : Int) := by omega
      have HEE : Hid (EA l i = ⟨(EA l i).U, (EA l i).V, (EA l i).W⟩) := rfl
      generalize (EA l i).U = eu at *
      generalize (EA l i).V = ev at *
      generalize (EA l i).W = ew at *
      by_cases hth : ew ≤ th
      · have t2 : decide (ew ≤ th) = true := decide_eq_true hth
        rw [if_pos hth] at HUS
        obtain ⟨ob, hob⟩ : ∃ ob, w.heap.size = ob := ⟨_, rfl⟩
        obtain ⟨lu, hlu⟩ : ∃ lu, undL (l.take i) th = lu := ⟨_, rfl⟩
        have hrl := und_len l th i
        rw [hlu] at hrl HV2 HUS
        obtain ⟨rn, hrn⟩ : ∃ rn, lu.length = rn := ⟨_, rfl⟩
        rw [hrn] at hrl
        have HUE : Hid (EA l i = ⟨eu, ev, ew⟩) := HEE.out
        rw [HUE.out] at HUS
        have HSTA : Hid (∀ ys W, StU wr w.heap.size v lu eu ev ew ys W → W.cell? ⟨g, 2, none⟩ = some (.slice (some ⟨b, 0, none⟩) N cap) ∧ W.cell? ⟨b, i * 3, none⟩ = some (.int .i64 eu) ∧ W.cell? ⟨b, i * 3 + 1, none⟩ = some (.int .i64 ev) ∧ W.cell? ⟨b, i * 3 + 2, none⟩ = some (.int .i64 ew) ∧ (¬ 2 ≤ ys.length → W.cell? ⟨w.heap.size, 2, none⟩ = some v)) := by
          have hgo : ∀ p : Addr, p.block < w.heap.size → ∀ u, wr.cell? p = some u → ∀ W, Mod (fun x => x = w.heap.size ∨ v.ownBlock = some x) wr W → W.cell? p = some u := fun p hp u hu W hm =>
            (hm.cell (World.block_lt_of_cell? wr _ hu) (fun e => by
              rcases e with e | e
              · omega
              · have := (HV3.out _ e).1; omega)).trans hu
          have hgl : g < w.heap.size := HB.out.lt
          have hbl : b < w.heap.size := HR.out.lt (by omega)
          have fin : ∀ W, Mod (fun x => x = w.heap.size ∨ v.ownBlock = some x) wr W → W.cell? ⟨g, 2, none⟩ = some (.slice (some ⟨b, 0, none⟩) N cap) ∧ W.cell? ⟨b, i * 3, none⟩ = some (.int .i64 eu) ∧ W.cell? ⟨b, i * 3 + 1, none⟩ = some (.int .i64 ev) ∧ W.cell? ⟨b, i * 3 + 2, none⟩ = some (.int .i64 ew) := fun W hm =>
            ⟨hgo ⟨g, 2, none⟩ hgl _ x2 W hm, hgo ⟨b, i * 3, none⟩ hbl _ d0 W hm, hgo ⟨b, i * 3 + 1, none⟩ hbl _ d1 W hm, hgo ⟨b, i * 3 + 2, none⟩ hbl _ d2 W hm⟩
          have hv : ∀ z W, StV wr v lu eu ev ew z W → Mod (fun x => x = w.heap.size ∨ v.ownBlock = some x) wr W := fun z W h => h.1.mono (fun x _ e => .inr e)
          have cat : ∀ {A B C D E : Prop}, (A ∧ B ∧ C ∧ D) → E → A ∧ B ∧ C ∧ D ∧ E := fun h e => ⟨h.1, h.2.1, h.2.2.1, h.2.2.2, e⟩
          intro ys W hst
          match ys, hst with
          | [], hst =>
            have e := hst
            unfold StU DrewOf at e
            subst e
            exact cat (fin _ (Mod.refl _ wr).drew) (fun _ => HV1.out.cell (i := 2) rfl)
          | [y], hst =>
            obtain ⟨rfl, _⟩ := hst
            exact cat (fin _ ((Mod.refl _ wr).drew.alloc _)) (fun _ => (HV1.out.below ((Below.refl _ wr).drew.alloc (Nat.le_refl _) _) HV1.out.lt).cell (i := 2) rfl)
          | [_, z], hst => exact cat (fin _ (hv _ _ hst)) (fun h => absurd (Nat.le_refl 2) h)
          | [_, z, p], hst => exact cat (fin _ (hv _ _ hst.1)) (fun h => absurd (show 2 ≤ 3 by omega) h)
          | [_, z, _, q], hst => exact cat (fin _ (hv _ _ hst.1)) (fun h => absurd (show 2 ≤ 4 by omega) h)
          | [_, z, _, _, _], hst =>
            obtain ⟨W1, h1, rfl⟩ := hst
            exact cat (fin _ ((hv _ _ h1).setCell _ (fun _ => .inl rfl) _)) (fun h => absurd (show 2 ≤ 5 by omega) h)
          | _ :: _ :: _ :: _ :: _ :: _ :: _, hst => cases hst
        have HAPP : Hid (∀ W, W = wr.drew.alloc (.cells #[.int .i64 eu, .int .i64 ev, .int .i64 ew] 45) → W.ownsRow 0 45 3 v rn (edCells lu) ∧ (∀ j u, [Value.int .i64 eu, .int .i64 ev, .int .i64 ew][j]? = some u → W.cell? ((⟨wr.heap.size, 0, none⟩ : Addr).add j) = some u) ∧ ∀ v' w', w'.ownsRow 0 45 3 v' (rn + 1) (edCells lu ++ [.int .i64 eu, .int .i64 ev, .int .i64 ew]) → W.grownBy w' v.ownBlock → (∀ k, v'.ownBlock = some k → v.ownBlock = some k ∨ W.heap.size ≤ k) → StV wr v lu eu ev ew v' w') := fun W hW => by
          have h1 := HV2.out
          rw [hrn] at h1
          refine ⟨?_, ?_, fun v' w' a1 a2 a3 => StV.of hrn hW a1 a2 a3⟩
          · rw [hW]
            exact World.ownsRow.alloc (w := wr.drew) h1 _
          · rw [hW]
            exact news_new wr.drew 45 [.int .i64 eu, .int .i64 ev, .int .i64 ew]
        have hB1 : ∀ z W, StV wr v lu eu ev ew z W → Blk W w.heap.size 111 [.bool true, .int .i64 (n : Int), v] := fun z W h => HV1.out.mod h.1 (fun e => (HV3.out _ e).2 rfl)
        have HFREE : Hid (∀ z W, StV wr v lu eu ev ew z W → W.frozen? ⟨w.heap.size, 2, none⟩ = false ∧ W.cell? ⟨w.heap.size, 2, none⟩ = some v ∧ ∃ o c, z = .slice o (rn + 1) c) := fun z W h => by
          refine ⟨(hB1 z W h).free 2, (hB1 z W h).cell (i := 2) rfl, ?_⟩
          obtain ⟨gg, cap', e, _⟩ := owns_form h.2.1 (by omega)
          rw [hrn] at e
          exact ⟨_, _, e⟩
        have HFINL : Hid (∀ y z p q s W, StU wr w.heap.size v lu eu ev ew [y, z, p, q, s] W → UnS w W w.heap.size n (lu ++ [⟨eu, ev, ew⟩])) := fun y z p q s W hst => by
          obtain ⟨W1, h1, rfl⟩ := hst
          have hb := hB1 z W1 h1
          have hzn : ∀ k, z.ownBlock = some k → w.heap.size ≤ k ∧ k ≠ w.heap.size := fun k hk => by
            rcases h1.2.2 k hk with e | e
            · exact HV3.out k e
            · have := HV1.out.lt; omega
          have hm : Mod (fun x => x = w.heap.size) W1 (W1.setCell ⟨w.heap.size, 2, none⟩ z) := (Mod.refl (fun x => x = w.heap.size) W1).setCell ⟨w.heap.size, 2, none⟩ (fun _ => rfl) _
          refine ⟨⟨z, hb.set 2 z, ?_, hzn⟩, bel_mod (bel_mod HBW.out h1.1 (fun k e => (HV3.out k e).1)) hm (fun k e => by rw [e]; exact Nat.le_refl _)⟩
          rw [List.length_append]
          exact owns_mod h1.2.1 hm (fun k hk => (hzn k hk).2)
        clear hB1 hlu HBW HS HV1 HV2 HV3 HBR HRR HB HR
        rw [hob] at HSTA HFREE HFINL
        have HOB := Lib.hid hob
        go_wp2_with fail
        rw [hob]
        clear hob
        -- ONE<
        refine wp_region_stage 12 (by kernel_rfl) (by kernel_rfl) (by kernel_rfl) (by kernel_rfl) (by kernel_rfl) (FU ob g b i N cap eu ev ew v) (StU wr ob v lu eu ev ew) rfl ?read ?tail ?fin
        case read =>
          intro W ys o_i o AA hin hst hnd hev hdep ho
          obtain ⟨hg2, hd0, hd1, hd2, hlook⟩ := HSTA.out ys W hst
          have e0 := hev 0 (by kernel_rfl)
          replace e0 : AA.eval (.tmp 0) = .pointer (some ⟨g, 0, none⟩) := e0
          have e5 := hev 5 (by kernel_rfl)
          replace e5 : AA.eval (.tmp 5) = .pointer (some ⟨ob, 0, none⟩) := e5
          have e6 := hev 6 (by kernel_rfl)
          replace e6 : AA.eval (.tmp 6) = .int .i64 (i : Int) := e6
          have hcs : o_i = 0 ∨ o_i = 1 ∨ o_i = 2 ∨ o_i = 3 ∨ o_i = 4 ∨ o_i = 5 ∨ o_i = 6 ∨ o_i = 7 ∨ o_i = 8 ∨ o_i = 9 ∨ o_i = 10 ∨ o_i = 11 := by omega
          rcases hcs with rfl | rfl | rfl | rfl | rfl | rfl | rfl | rfl | rfl | rfl | rfl | rfl
          · cases ho
            refine ⟨wanted_free rfl, wp_value (v := .pointer (some ⟨ob, 0, none⟩)) (w' := W) (by simp only [execOp, e5]; simp [go_sem, hg2, hd0, hd1, hd2, t0, t1]) ⟨_, rfl, rfl, rfl⟩⟩
          · cases ho
            refine ⟨wanted_free rfl, wp_value (v := .pointer (some ⟨ob, 0, none⟩)) (w' := W) (by simp only [execOp, e5]; simp [go_sem, hg2, hd0, hd1, hd2, t0, t1]) ⟨_, rfl, rfl, rfl⟩⟩
          · cases ho
            have f36 : AA.eval (.tmp 36) = .pointer (some ⟨ob, 0, none⟩) := hdep ⟨1, .data⟩ 36 (by simp) (by rfl) rfl (by simp)
            refine ⟨wanted_free rfl, wp_value (v := .pointer (some ⟨ob, 0, none⟩)) (w' := W) (by simp only [execOp, f36]; simp [go_sem, hg2, hd0, hd1, hd2, t0, t1]) ⟨_, rfl, rfl, rfl⟩⟩
          · cases ho
            have f37 : AA.eval (.tmp 37) = .pointer (some ⟨ob, 0, none⟩) := hdep ⟨2, .data⟩ 37 (by simp) (by rfl) rfl (by simp)
            refine ⟨wanted_free rfl, wp_value (v := .pointer (some ⟨ob, 2, none⟩)) (w' := W) (by simp only [execOp, f37]; simp [go_sem, hg2, hd0, hd1, hd2, t0, t1]) ⟨_, rfl, rfl, rfl⟩⟩
          · cases ho
            have f38 : AA.eval (.tmp 38) = .pointer (some ⟨ob, 2, none⟩) := hdep ⟨3, .data⟩ 38 (by simp) (by rfl) rfl (by simp)
            have hl := hlook (by
              intro h2
              exact hnd 13 _ (by omega) (by omega) rfl ⟨4, .data⟩ (by simp) (by rfl) rfl)
            refine ⟨wanted_free rfl, wp_value (v := v) (w' := W) (by simp only [execOp, f38]; simp [go_sem, hg2, hd0, hd1, hd2, t0, t1, hl]) ⟨_, rfl, rfl, rfl⟩⟩
          · cases ho
            refine ⟨wanted_free rfl, wp_value (v := .pointer (some ⟨g, 0, none⟩)) (w' := W) (by simp only [execOp, e0]; simp [go_sem, hg2, hd0, hd1, hd2, t0, t1]) ⟨_, rfl, rfl, rfl⟩⟩
          · cases ho
            have f40 : AA.eval (.tmp 40) = .pointer (some ⟨g, 0, none⟩) := hdep ⟨5, .data⟩ 40 (by simp) (by rfl) rfl (by simp)
            refine ⟨wanted_free rfl, wp_value (v := .pointer (some ⟨g, 0, none⟩)) (w' := W) (by simp only [execOp, f40]; simp [go_sem, hg2, hd0, hd1, hd2, t0, t1]) ⟨_, rfl, rfl, rfl⟩⟩
          · cases ho
            have f41 : AA.eval (.tmp 41) = .pointer (some ⟨g, 0, none⟩) := hdep ⟨6, .data⟩ 41 (by simp) (by rfl) rfl (by simp)
            refine ⟨wanted_free rfl, wp_value (v := .pointer (some ⟨g, 2, none⟩)) (w' := W) (by simp only [execOp, f41]; simp [go_sem, hg2, hd0, hd1, hd2, t0, t1]) ⟨_, rfl, rfl, rfl⟩⟩
          · cases ho
            have f42 : AA.eval (.tmp 42) = .pointer (some ⟨g, 2, none⟩) := hdep ⟨7, .data⟩ 42 (by simp) (by rfl) rfl (by simp)
            refine ⟨wanted_free rfl, wp_value (v := .slice (some ⟨b, 0, none⟩) N cap) (w' := W) (by simp only [execOp, f42]; simp [go_sem, hg2, hd0, hd1, hd2, t0, t1]) ⟨_, rfl, rfl, rfl⟩⟩
          · cases ho
            refine ⟨wanted_free rfl, wp_value (v := .int .i64 (i : Int)) (w' := W) (by simp only [execOp, e6]; simp [go_sem, hg2, hd0, hd1, hd2, t0, t1]) ⟨_, rfl, rfl, rfl⟩⟩
          · cases ho
            have f43 : AA.eval (.tmp 43) = .slice (some ⟨b, 0, none⟩) N cap := hdep ⟨8, .data⟩ 43 (by simp) (by rfl) rfl (by simp)
            have f44 : AA.eval (.tmp 44) = .int .i64 (i : Int) := hdep ⟨9, .data⟩ 44 (by simp) (by rfl) rfl (by simp)
            refine ⟨wanted_free rfl, wp_value (v := .pointer (some ⟨b, i * 3, none⟩)) (w' := W) (by simp only [execOp, f43, f44]; simp [go_sem, hg2, hd0, hd1, hd2, t0, t1]) ⟨_, rfl, rfl, rfl⟩⟩
          · cases ho
            have f45 : AA.eval (.tmp 45) = .pointer (some ⟨b, i * 3, none⟩) := hdep ⟨10, .data⟩ 45 (by simp) (by rfl) rfl (by simp)
            refine ⟨wanted_free rfl, wp_value (v := .agg #[.int .i64 eu, .int .i64 ev, .int .i64 ew]) (w' := W) (by simp only [execOp, f45]; simp [go_sem, hg2, hd0, hd1, hd2, t0, t1]) ⟨_, rfl, rfl, rfl⟩⟩
        case tail =>
          intro W ys o AA hst ho hev hdep
          match ys, hst, ho, hdep with
          | [], hst, ho, hdep =>
            cases ho
            have f46 : AA.eval (.tmp 46) = .agg #[.int .i64 eu, .int .i64 ev, .int .i64 ew] := (hdep ⟨11, .data⟩ 46 (by simp) (by rfl) rfl (by simp)).1 (by decide)
            have g1 : AA.tmps[46]?.getD undef = .agg #[.int .i64 eu, .int .i64 ev, .int .i64 ew] := by simpa [Act.eval] using f46
            have e := hst
            unfold StU DrewOf at e
            subst e
            exact ⟨wanted_free rfl, wp_value (v := .slice (some ⟨wr.heap.size, 0, none⟩) 1 1) (w' := wr.drew.alloc (.cells #[.int .i64 eu, .int .i64 ev, .int .i64 ew] 45)) (by simp only [execOp]; simp [go_sem, g1]) ⟨_, rfl, ⟨rfl, rfl⟩⟩⟩
          | [y], hst, ho, hdep =>
            cases ho
            obtain ⟨hW, rfl⟩ := hst
            have f39 : AA.eval (.tmp 39) = v := (hdep ⟨4, .data⟩ 39 (by simp) (by rfl) rfl (by simp)).1 (by decide)
            have f47 : AA.eval (.tmp 47) = .slice (some ⟨wr.heap.size, 0, none⟩) 1 1 := by
              have := (hdep ⟨12, .data⟩ 47 (by simp) (by rfl) rfl (by simp)).2 0 rfl
              injection this with this
              exact this.symm
            refine ⟨wanted_free rfl, ?_⟩
            obtain ⟨h1, h2, h3⟩ := HAPP.out W hW
            exact wp_appendB 45 (.agg #[.int .i64 0, .int .i64 0, .int .i64 0]) 3 24 Tryd.underlying22 Tryd.infoEdge rfl (by decide) v rn _ f39 h1 ⟨wr.heap.size, 0, none⟩ 1 1 [.int .i64 eu, .int .i64 ev, .int .i64 ew] f47 rfl h2 (by simp [Value.oneCell']) (by unfold maxLen; omega) (by omega) (fun v' w' a1 a2 a3 => ⟨v', rfl, h3 v' w' a1 a2 a3⟩)
          | [y, z], hst, ho, hdep =>
            cases ho
            have f35 : AA.eval (.tmp 35) = .pointer (some ⟨ob, 0, none⟩) := (hdep ⟨0, .data⟩ 35 (by simp) (by rfl) rfl (by simp)).1 (by decide)
            exact ⟨wanted_free rfl, wp_value (v := .pointer (some ⟨ob, 0, none⟩)) (w' := W) (by simp only [execOp, f35]; simp [go_sem]) ⟨_, rfl, ⟨hst, rfl⟩⟩⟩
          | [y, z, p], hst, ho, hdep =>
            cases ho
            obtain ⟨hst, rfl⟩ := hst
            have f49 : AA.eval (.tmp 49) = .pointer (some ⟨ob, 0, none⟩) := by
              have := (hdep ⟨14, .data⟩ 49 (by simp) (by rfl) rfl (by simp)).2 2 rfl
              injection this with this
              exact this.symm
            exact ⟨wanted_free rfl, wp_value (v := .pointer (some ⟨ob, 2, none⟩)) (w' := W) (by simp only [execOp, f49]; simp [go_sem]) ⟨_, rfl, ⟨hst, rfl⟩⟩⟩
          | [y, z, p, q], hst, ho, hdep =>
            cases ho
            obtain ⟨hst, rfl⟩ := hst
            have f50 : AA.eval (.tmp 50) = .pointer (some ⟨ob, 2, none⟩) := by
              have := (hdep ⟨15, .data⟩ 50 (by simp) (by rfl) rfl (by simp)).2 3 rfl
              injection this with this
              exact this.symm
            have f48 : AA.eval (.tmp 48) = z := by
              have := (hdep ⟨13, .data⟩ 48 (by simp) (by rfl) rfl (by simp)).2 1 rfl
              injection this with this
              exact this.symm
            obtain ⟨hfr, hce, o, c, rfl⟩ := HFREE.out z W hst
            refine ⟨wanted_free rfl, ?_⟩
            unfold Oper.wp execOp
            simp only [f50, f48]
            simp [go_sem, hfr, hce]
            exact ⟨undef, W, hst, rfl⟩
          | [y, z, p, q, s], hst, ho, hdep => cases ho
          | _ :: _ :: _ :: _ :: _ :: _ :: _, hst, ho, hdep => cases hst
        case fin =>
          intro xs W hst hF
          have HFIN := Lib.hid (HFINL.out _ _ _ _ _ _ (show StU wr ob v lu eu ev ew [xs 12, xs 13, xs 14, xs 15, xs 16] W from hst))
          clear hst hF
          simp only [putAll, Nat.zero_add, Nat.reduceAdd]
          generalize xs 0 = z0
          generalize xs 1 = z1
          generalize xs 2 = z2
          generalize xs 3 = z3
          generalize xs 4 = z4
          generalize xs 5 = z5
          generalize xs 6 = z6
          generalize xs 7 = z7
          generalize xs 8 = z8
          generalize xs 9 = z9
          generalize xs 10 = z10
          generalize xs 11 = z11
          generalize xs 12 = z12
          generalize xs 13 = z13
          generalize xs 14 = z14
          generalize xs 15 = z15
          generalize xs 16 = z16
          clear xs HSTA HAPP HFREE HFINL
          have hob := HOB.out
          subst hob
          go_wp2_with fail
          go_roundw
          case rel => exact ⟨i + 1, by omega, by go_num, by rw [HUS.out]; exact HFIN.out⟩
          case measure => simp [intOf]; omega
        -- ONE>
      · have t2 : decide (ew ≤ th) = false := decide_eq_false hth
        rw [if_neg hth] at HUS
        go_wp2_with fail
        go_roundw
        case rel => exact ⟨i + 1, by omega, by go_num, by rw [HUS.out]; exact HS.out⟩
        case measure => simp [intOf]; omega
    · obtain rfl : i = l.length := by omega
      have HFN : Hid (UgPost w n (undL l th) (.returned (.pointer (some ⟨w.heap.size, 0, none⟩))) wr) := by
        have h2 := HV2.out
        rw [List.take_length] at h2
        obtain ⟨ao', cap', b', rfl, her, _⟩ := ERow.of_owns h2
        exact ⟨⟨_, rfl, ⟨ao', cap', b', HV1.out, her, owns_nilcap h2⟩⟩, HBW.out⟩
      generalize l.length = N at *
      go_wp2_with fail
      go_ret
      exact HFN.out

end Go.Proofs.YtenhbfbfkcjimaaDoor

/- The reference of layer 13: Labels. -/
namespace Go.Proofs.YtenhbfbfkcjimaaDoor
set_option linter.unusedVariables false
set_option linter.unusedSimpArgs false
open Go.RowKit

/-- Labels on their way. -/
structure LGood (n : Nat) (l : List Ed) (k : List Nat) : Prop where
  len : k.length = n
  le : ∀ x, x < n → k.getD x 0 ≤ x
  con : ∀ x, x < n → Con (EdR l fun _ => True) x (k.getD x 0)

theorem LGood.start (n : Nat) (l : List Ed) : LGood n l (List.range n) := by
  have e : ∀ x, x < n → (List.range n).getD x 0 = x := fun x hx => by rw [List.getD_eq_getElem?_getD, List.getElem?_range hx]; rfl
  exact ⟨List.length_range, fun x hx => by rw [e x hx]; exact Nat.le_refl _, fun x hx => by rw [e x hx]; exact .refl _⟩

theorem getD_setN {k : List Nat} {y m x : Nat} (hy : y < k.length) : (k.set y m).getD x 0 = if x = y then m else k.getD x 0 := by
  rw [List.getD_eq_getElem?_getD, List.getD_eq_getElem?_getD]
  by_cases e : x = y
  · subst e; rw [if_pos rfl, List.getElem?_set_self hy]; rfl
  · rw [if_neg e, List.getElem?_set_ne (fun h => e h.symm)]

theorem LGood.set {n : Nat} {l : List Ed} {k : List Nat} (h : LGood n l k) {i x y : Nat} (hi : i < l.length) (ha : Arm l i x y) (hx : x < n) (hy : y < n) (hlt : k.getD x 0 < k.getD y 0) : LGood n l (k.set y (k.getD x 0)) := by
  have hyl : y < k.length := by rw [h.len]; exact hy
  refine ⟨by rw [List.length_set]; exact h.len, fun z hz => ?_, fun z hz => ?_⟩
  · rw [getD_setN hyl]
    by_cases e : z = y
    · rw [if_pos e, e]; have := h.le y hy; omega
    · rw [if_neg e]; exact h.le z hz
  · rw [getD_setN hyl]
    by_cases e : z = y
    · rw [if_pos e, e]
      exact (ha.symm.con hi trivial).trans (h.con x hx)
    · rw [if_neg e]; exact h.con z hz

theorem LGood.lab {n : Nat} {l : List Ed} {k : List Nat} (hg : GOk n l) (h : LGood n l k) (he : ∀ i, i < l.length → k.getD (uN l i) 0 = k.getD (vN l i) 0) : IsLab n (EdR l fun _ => True) k :=
  ⟨h.len, h.le, h.con, fun u v ⟨i, h1, _, h3, h4⟩ => by
    subst h3 h4
    obtain ⟨a1, a2, _⟩ := hg.uv h1
    exact ⟨a1, a2, he i h1⟩⟩

def kS (k : List Nat) (n : Nat) : Nat := sumTo (fun x => k.getD x 0) n
theorem kS_set {k : List Nat} {n y m : Nat} (hl : k.length = n) (hy : y < n) (hlt : m < k.getD y 0) : kS (k.set y m) n < kS k n := by
  unfold kS
  have hyl : y < k.length := by omega
  rw [sumTo_add (g := fun x => k.getD x 0) (h := fun x => (k.set y m).getD x 0) (p := y) (q := k.getD y 0 - m) (fun x hx => by
    show k.getD x 0 = (k.set y m).getD x 0
    rw [getD_setN hyl, if_neg hx]) (by
    show k.getD y 0 = (k.set y m).getD y 0 + _
    rw [getD_setN hyl, if_pos rfl]; omega) n, if_pos hy]
  omega

def natAt (w : World) (b x : Nat) : Nat := (intOf ((w.cell? ⟨b, x, none⟩).getD undef)).toNat
def blkOf (ao : Option Addr) : Nat := match ao with | none => 0 | some a => a.block
/-- The labels' sum, out of memory. -/
def rowSum (w : World) (ao : Option Addr) (n : Nat) : Nat := sumTo (natAt w (blkOf ao)) n
theorem rowSum_own {w : World} {T : TypeId} {ao : Option Addr} {n cap : Nat} {k : List Nat} (h : w.ownsRow 0 T 1 (.slice ao n cap) n (natV k)) (hl : k.length = n) : rowSum w ao n = kS k n := by
  unfold rowSum kS
  refine sumTo_congr n fun x hx => ?_
  obtain ⟨g, c, e, _, _, _, hc, _⟩ := owns_form h (by omega)
  injection e with e1
  subst e1
  have := hc x (by omega)
  rw [natV_get (by omega)] at this
  unfold natAt blkOf
  show (intOf ((w.cell? ⟨g, x, none⟩).getD undef)).toNat = _
  rw [this]
  simp [intOf]

structure RlPost (w : World) (n : Nat) (l : List Ed) (e : Ending) (w' : World) : Prop where
  out : ∃ K v, e = .returned v ∧ IsLab n (EdR l fun _ => True) K ∧ w'.ownsRow 0 3 1 v n (natV K) ∧ ∀ g, v.ownBlock = some g → w.heap.size ≤ g
  bel : Below w.heap.size w w'

/-- What the loops of Labels hold. -/
structure LbG (w wr : World) (n : Nat) (l : List Ed) (ao : Option Addr) (cap : Nat) (k : List Nat) : Prop where
  own : wr.ownsRow 0 3 1 (.slice ao n cap) n (natV k)
  good : LGood n l k
  new : ∀ g, (Value.slice ao n cap).ownBlock = some g → w.heap.size ≤ g
  bel : Below w.heap.size w wr

theorem LbG.drewN {w wr : World} {n : Nat} {l : List Ed} {ao : Option Addr} {cap : Nat} {k : List Nat} (h : LbG w wr n l ao cap k) (q : Nat) : LbG w (wr.drewN q) n l ao cap k :=
  ⟨owns_drewN h.own q, h.good, h.new, bel_drewN h.bel q⟩

theorem LbG.set {w wr : World} {n : Nat} {l : List Ed} {g cap : Nat} {k : List Nat} (h : LbG w wr n l (some ⟨g, 0, none⟩) cap k) {i x y : Nat} (hi : i < l.length) (ha : Arm l i x y) (hx : x < n) (hy : y < n) (hlt : k.getD x 0 < k.getD y 0) :
    LbG w (wr.setCell ⟨g, y, none⟩ (.int .i64 ((k.getD x 0 : Nat) : Int))) n l (some ⟨g, 0, none⟩) cap (k.set y (k.getD x 0)) :=
  ⟨ownN_set h.own hy _, h.good.set hi ha hx hy hlt, h.new, h.bel.setCell (h.new g rfl) _⟩

end Go.Proofs.YtenhbfbfkcjimaaDoor

/- The reference of layer 13: Labels, the walk. -/
namespace Go.Proofs.YtenhbfbfkcjimaaDoor
set_option linter.unusedVariables false
set_option linter.unusedSimpArgs false
open Go.RowKit

theorem LbG.sum {w wr : World} {n : Nat} {l : List Ed} {ao : Option Addr} {cap : Nat} {k : List Nat} (h : LbG w wr n l ao cap k) : rowSum wr ao n = kS k n := rowSum_own h.own h.good.len

/-- The rounds over the edges: c: something has changed since the labels k0. -/
structure LbI (w wr : World) (n : Nat) (l : List Ed) (ao : Option Addr) (cap : Nat) (k0 : List Nat) (c : Bool) (i : Nat) : Prop where
  ex : ∃ k, LbG w wr n l ao cap k ∧ (c = false → k = k0 ∧ ∀ j, j < i → k.getD (uN l j) 0 = k.getD (vN l j) 0) ∧ (c = true → kS k n < kS k0 n)

set_option maxHeartbeats 32000000 in
set_option maxRecDepth 100000 in
theorem rlabels_ok (w : World) (g n : Nat) (l : List Ed) (h : RGObj w g n l) (hg : GOk n l) : Calls Tryd.prog 43 #[.pointer (some ⟨g, 0, none⟩)] w (RlPost w n l) := by
  obtain ⟨ao, cap, b, hb, hr, _⟩ := h.ex
  have HB := Lib.hid hb
  have HR := Lib.hid hr
  have HG := Lib.hid hg
  have c0 := hb.cell (i := 0) rfl
  have hn4 := hg.hn
  have hl4 := hg.hl
  clear h hb hr hg
  go_enter Tryd.func43, Tryd.ntmps43
  go_wp2_with fail
  with_reducible refine (rvalid_ok w g c0).mono ?_
  rintro e w1 ⟨rfl, rfl⟩
  go_wp2_with fail
  go_loopw [3, 4] (fun x s wr => ∃ i : Nat, i ≤ n ∧ s = .int .i64 i ∧ wr.ownsRow 0 3 1 x i (natV (List.range i)) ∧ (∀ y, x.ownBlock = some y → w.heap.size ≤ y) ∧ Below w.heap.size w wr) (fun _ s _ => n - (intOf s).toNat)
  case atStart => exact ⟨0, Nat.zero_le _, rfl, World.ownsRow_nil _ _ _ _, fun y hy => (by cases hy), Below.refl _ _⟩
  case round =>
    obtain ⟨i, hi, rfl, hx, hxn, hbl⟩ := hrel
    have HX := Lib.hid hx
    have HXN := Lib.hid hxn
    have HBL := Lib.hid hbl
    have HBB := Lib.hid (HB.out.below hbl HB.out.lt)
    have x1 := HBB.out.cell (i := 1) rfl
    clear hx hxn hbl c0
    by_cases hin : i < n
    · have t1 : (i : Int) < (n : Int) := by omega
      have HOW := Lib.hid (HX.out.alloc (.cells #[.int .i64 i] 3))
      have HNW := Lib.hid (news_new wr 3 [.int .i64 i])
      go_wp2_with (at_builtin; apply keepIt)
      apply Lib.hid
      refine wpList_appendB 3 (.int .i64 0) 1 8 Tryd.underlying35 Tryd.infoInt rfl (by decide) _ i _ rfl HOW.out ⟨wr.heap.size, 0, none⟩ 1 1 [.int .i64 i] rfl rfl HNW.out (by simp [Value.oneCell']) (by unfold maxLen; omega) (by omega) ?_
      intro v6 w6 ho6 hg6 hn6
      obtain ⟨hv6, hvn6, hb6⟩ := app_one HXN.out HBL.out.size ho6 hg6 hn6
      rw [← List.range_succ] at hv6
      have HB6 := Lib.hid (HBL.out.trans hb6)
      have HV6 := Lib.hid hv6
      have HN6 := Lib.hid hvn6
      clear ho6 hg6 hn6 hv6 hvn6 hb6
      go_wp2_with fail
      go_roundw
      case rel => exact ⟨i + 1, by omega, by go_num, HV6.out, HN6.out, HB6.out⟩
      case measure => simp [intOf]; omega
    · obtain rfl : i = n := by omega
      obtain ⟨va, vc, hva⟩ := owns_slice HX.out
      have HG0 : Hid (LbG w wr i l va vc (List.range i)) := by
        have h1 := HX.out
        have h2 := HXN.out
        rw [hva] at h1 h2
        exact ⟨h1, LGood.start i l, h2, HBL.out⟩
      rw [hva]
      clear HX HXN
      go_wp2_with fail
      go_loopw [5] (fun s5 w6 => ∃ (k : List Nat) (c : Bool), s5 = .bool c ∧ LbG w w6 i l va vc k ∧ (c = false → ∀ j, j < l.length → k.getD (uN l j) 0 = k.getD (vN l j) 0)) (fun s w6 => rowSum w6 va i + (match s with | .bool true => 1 | _ => 0))
      case atStart => exact ⟨_, true, rfl, HG0.out, fun h => by cases h⟩
      case round =>
        obtain ⟨k0, c, rfl, hlb, heq⟩ := hrel
        have HLB := Lib.hid hlb
        have HEQ := Lib.hid heq
        have HSUM := Lib.hid hlb.sum
        clear hlb heq HG0 HBL HBB x1
        cases c with
        | false =>
          go_wp2_with fail
          go_ret
          exact ⟨⟨k0, _, rfl, HLB.out.good.lab HG.out (HEQ.out (by trivial)), HLB.out.own, HLB.out.new⟩, HLB.out.bel⟩
        | true =>
          have HI0 : Hid (LbI w wr i l va vc k0 false 0) := ⟨k0, HLB.out, fun _ => ⟨rfl, fun j hj => by omega⟩, fun h => by cases h⟩
          clear HEQ
          go_wp2_with fail
          obtain ⟨wO, hwO⟩ : ∃ z, z = wr := ⟨_, rfl⟩
          subst hwO
          obtain ⟨m, hm⟩ : ∃ m, l.length = m := ⟨_, rfl⟩
          go_loopw [5, 6] (fun s5 s6 w6 => ∃ (t : Nat) (c : Bool), t ≤ m ∧ s6 = .int .i64 t ∧ s5 = .bool c ∧ LbI w w6 i l va vc k0 c t) (fun _ s _ => m - (intOf s).toNat)
          case atStart => exact ⟨0, false, Nat.zero_le _, rfl, rfl, HI0.out⟩
          case round =>
            obtain ⟨t, c, ht, rfl, rfl, hli⟩ := hrel
            obtain ⟨k, hlb, hcf, hct⟩ := hli.ex
            have HL := Lib.hid hlb
            have HCF := Lib.hid hcf
            have HCT := Lib.hid hct
            have HBB := Lib.hid (HB.out.below hlb.bel HB.out.lt)
            have HRR := Lib.hid (HR.out.below hlb.bel)
            have x2 := HBB.out.cell (i := 2) rfl
            rw [hm] at x2
            clear hli hlb hcf hct HI0 HLB
            by_cases htm : t < m
            · have htl : t < l.length := by rw [hm]; exact htm
              obtain ⟨d0, d1, d2⟩ := HRR.out.cell t htl
              rw [Nat.zero_add] at d0 d1 d2
              obtain ⟨hu, hv, huv, eU, eV⟩ := HG.out.uv htl
              rw [eU] at d0
              rw [eV] at d1
              obtain rfl := HRR.out.adr (by omega)
              have ha : Arm l t (uN l t) (vN l t) := .inl ⟨rfl, rfl⟩
              obtain ⟨gb, gc, ev, _⟩ := owns_form HL.out.own (show 0 < i by omega)
              injection ev with ev1 _ ev2
              subst ev1 ev2
              have q0 := ownN HL.out.own HL.out.good.len hu
              have q1 := ownN HL.out.own HL.out.good.len hv
              have HQ : Hid (∀ W k', LbG w W i l (some ⟨gb, 0, none⟩) vc k' → W.cell? ⟨gb, uN l t, none⟩ = some (.int .i64 ((k'.getD (uN l t) 0 : Nat) : Int)) ∧ W.frozen? ⟨gb, uN l t, none⟩ = false ∧ W.cell? ⟨gb, vN l t, none⟩ = some (.int .i64 ((k'.getD (vN l t) 0 : Nat) : Int)) ∧ W.frozen? ⟨gb, vN l t, none⟩ = false) := fun W k' h =>
                ⟨(ownN h.own h.good.len hu).1, (ownN h.own h.good.len hu).2, (ownN h.own h.good.len hv).1, (ownN h.own h.good.len hv).2⟩
              have HSV : Hid (k.getD (uN l t) 0 < k.getD (vN l t) 0 → ∀ W, LbG w W i l (some ⟨gb, 0, none⟩) vc k → LbG w (W.setCell ⟨gb, vN l t, none⟩ (.int .i64 ((k.getD (uN l t) 0 : Nat) : Int))) i l (some ⟨gb, 0, none⟩) vc (k.set (vN l t) (k.getD (uN l t) 0)) ∧ (∀ W', LbG w W' i l (some ⟨gb, 0, none⟩) vc (k.set (vN l t) (k.getD (uN l t) 0)) → LbI w W' i l (some ⟨gb, 0, none⟩) vc k0 true (t + 1)) ∧ (k.set (vN l t) (k.getD (uN l t) 0)).getD (uN l t) 0 = k.getD (uN l t) 0 ∧ (k.set (vN l t) (k.getD (uN l t) 0)).getD (vN l t) 0 = k.getD (uN l t) 0) := fun hlt W h =>
                ⟨h.set htl ha hu hv hlt, fun W' h' => ⟨_, h', (fun h => by cases h), fun _ => by
                  have h1 := kS_set HL.out.good.len hv hlt
                  cases c with
                  | false => rw [(HCF.out rfl).1] at h1 ⊢; exact h1
                  | true => have := HCT.out rfl; omega⟩, by rw [getD_setN (by rw [h.good.len]; exact hv), if_neg huv], by rw [getD_setN (by rw [h.good.len]; exact hv), if_pos rfl]⟩
              have HSU : Hid (k.getD (vN l t) 0 < k.getD (uN l t) 0 → ∀ W, LbG w W i l (some ⟨gb, 0, none⟩) vc k → LbG w (W.setCell ⟨gb, uN l t, none⟩ (.int .i64 ((k.getD (vN l t) 0 : Nat) : Int))) i l (some ⟨gb, 0, none⟩) vc (k.set (uN l t) (k.getD (vN l t) 0)) ∧ (∀ W', LbG w W' i l (some ⟨gb, 0, none⟩) vc (k.set (uN l t) (k.getD (vN l t) 0)) → LbI w W' i l (some ⟨gb, 0, none⟩) vc k0 true (t + 1))) := fun hlt W h =>
                ⟨h.set htl ha.symm hv hu hlt, fun W' h' => ⟨_, h', (fun h => by cases h), fun _ => by
                  have h1 := kS_set HL.out.good.len hu hlt
                  cases c with
                  | false => rw [(HCF.out rfl).1] at h1 ⊢; exact h1
                  | true => have := HCT.out rfl; omega⟩⟩
              have HSE : Hid (k.getD (uN l t) 0 = k.getD (vN l t) 0 → ∀ W, LbG w W i l (some ⟨gb, 0, none⟩) vc k → LbI w W i l (some ⟨gb, 0, none⟩) vc k0 c (t + 1)) := fun he W hW =>
                ⟨k, hW, fun h => ⟨(HCF.out h).1, fun j hj => by
                  by_cases e : j = t
                  · rw [e]; exact he
                  · exact (HCF.out h).2 j (by omega)⟩, HCT.out⟩
              clear HCF HCT eU eV ha q0 q1
              generalize uN l t = u at *
              generalize vN l t = v at *
              generalize (EA l t).W = we at *
              obtain ⟨ku, hku⟩ : ∃ z, k.getD u 0 = z := ⟨_, rfl⟩
              obtain ⟨kv, hkv⟩ : ∃ z, k.getD v 0 = z := ⟨_, rfl⟩
              have HKU := Lib.hid hku
              have HKV := Lib.hid hkv
              rw [hku, hkv] at HSV HSU HSE
              clear hku hkv
              have t1 : (t : Int) < (m : Int) := by omega
              have t0 : (0 : Int) ≤ (t : Int) := by omega
              have t2 : (u : Int) < (i : Int) := by omega
              have t3 : (v : Int) < (i : Int) := by omega
              have t4 : (0 : Int) ≤ (u : Int) := by omega
              have t5 : (0 : Int) ≤ (v : Int) := by omega
              go_wp2_with fail
              go_quiet (fail)
              have HL7 := Lib.hid (HL.out.drewN nq)
              generalize wr.drewN nq = w7 at HL7 ⊢
              clear HL d0 d1 d2 x2
              obtain ⟨q0, f0, q1, f1⟩ := HQ.out _ _ HL7.out
              rw [HKU.out] at q0
              rw [HKV.out] at q1
              rcases Nat.lt_trichotomy ku kv with hk | hk | hk
              · have u1 : (ku : Int) < (kv : Int) := by omega
                go_wp2_with fail
                go_quiet (fail)
                have HL8 := Lib.hid (HL7.out.drewN nq)
                generalize w7.drewN nq = w8 at HL8 ⊢
                clear q0 f0 q1 f1
                obtain ⟨q0, f0, q1, f1⟩ := HQ.out _ _ HL8.out
                rw [HKU.out] at q0
                rw [HKV.out] at q1
                obtain ⟨hl9, hfin, e1, e2⟩ := HSV.out hk _ HL8.out
                have HL9 := Lib.hid hl9
                have HFIN := Lib.hid hfin
                obtain ⟨r0, r1, r2, r3⟩ := HQ.out _ _ hl9
                rw [e1] at r0
                rw [e2] at r2
                clear hl9 hfin e1 e2 r1 r3
                go_wp2_with fail
                go_quiet (fail)
                have HF2 := Lib.hid (HFIN.out _ (HL9.out.drewN nq))
                go_wp2_with fail
                go_roundw
                case rel => exact ⟨t + 1, true, by omega, by go_num, rfl, HF2.out⟩
                case measure => simp [intOf]; omega
              · have u1 : (ku : Int) = (kv : Int) := by omega
                obtain rfl : ku = kv := hk
                go_wp2_with fail
                go_quiet (fail)
                have HL8 := Lib.hid (HL7.out.drewN nq)
                generalize w7.drewN nq = w8 at HL8 ⊢
                clear q0 f0 q1 f1
                obtain ⟨q0, f0, q1, f1⟩ := HQ.out _ _ HL8.out
                rw [HKU.out] at q0
                rw [HKV.out] at q1
                go_wp2_with fail
                go_quiet (fail)
                have HF2 := Lib.hid (HSE.out (by trivial) _ (HL8.out.drewN nq))
                go_wp2_with fail
                go_roundw
                case rel => exact ⟨t + 1, c, by omega, by go_num, rfl, HF2.out⟩
                case measure => simp [intOf]; omega
              · have u1 : ¬ (ku : Int) < (kv : Int) := by omega
                have u2 : (kv : Int) < (ku : Int) := by omega
                have u3 : decide ((ku : Int) < (kv : Int)) = false := decide_eq_false u1
                have u4 : decide (ku < kv) = false := decide_eq_false (by omega)
                go_wp2_with fail
                go_quiet (fail)
                have HL8 := Lib.hid (HL7.out.drewN nq)
                generalize w7.drewN nq = w8 at HL8 ⊢
                clear q0 f0 q1 f1
                obtain ⟨q0, f0, q1, f1⟩ := HQ.out _ _ HL8.out
                rw [HKU.out] at q0
                rw [HKV.out] at q1
                go_wp2_with fail
                go_quiet (fail)
                have HL9 := Lib.hid (HL8.out.drewN nq)
                generalize w8.drewN nq = w9 at HL9 ⊢
                clear q0 f0 q1 f1
                obtain ⟨q0, f0, q1, f1⟩ := HQ.out _ _ HL9.out
                rw [HKU.out] at q0
                rw [HKV.out] at q1
                have HF2 := Lib.hid ((HSU.out hk _ HL9.out).2 _ (HSU.out hk _ HL9.out).1)
                go_wp2_with fail
                go_roundw
                case rel => exact ⟨t + 1, true, by omega, by go_num, rfl, HF2.out⟩
                case measure => simp [intOf]; omega
            · obtain rfl : t = m := by omega
              have HSM : Hid (rowSum wr va i = kS k i) := HL.out.sum
              go_wp2_with fail
              go_roundw
              case rel => exact ⟨k, c, rfl, HL.out, fun h => by rw [hm]; exact (HCF.out h).2⟩
              case measure =>
                rw [HSM.out, HSUM.out]
                cases c with
                | false => rw [(HCF.out rfl).1]; simp
                | true => have := HCT.out rfl; simp; omega

end Go.Proofs.YtenhbfbfkcjimaaDoor

/- The reference of layer 13: Edges; of layer 20: Joined. -/
namespace Go.Proofs.YtenhbfbfkcjimaaDoor
set_option linter.unusedVariables false
set_option linter.unusedSimpArgs false
open Go.RowKit

structure RePost (w : World) (l : List Ed) (e : Ending) (w' : World) : Prop where
  out : ∃ ao cap b, e = .returned (.slice ao l.length cap) ∧ ERow w' ao l.length b 0 l ∧ (ao = none → cap = 0) ∧ (∀ x, (Value.slice ao l.length cap).ownBlock = some x → w.heap.size ≤ x ∧ x = b)
  bel : Below w.heap.size w w'

set_option maxHeartbeats 8000000 in
set_option maxRecDepth 100000 in
theorem redges_ok (w : World) (g n : Nat) (l : List Ed) (h : RGObj w g n l) (hl : l.length ≤ 16384) : Calls Tryd.prog 36 #[.pointer (some ⟨g, 0, none⟩)] w (RePost w l) := by
  obtain ⟨ao, cap, b, hb, hr, hz⟩ := h.ex
  have c0 := hb.cell (i := 0) rfl
  have c2 := hb.cell (i := 2) rfl
  have HB0 := Lib.hid (bel_alloc w (.cells #[] 45))
  have c2' := ((hb.below HB0.out hb.lt).cell (i := 2) rfl)
  have HS := Lib.hid hr.size
  have HSR := Lib.hid (Src.of_edges hr hz)
  have HEM := Lib.hid (owns_empty2 w 45 3)
  clear h hb hr hz
  obtain ⟨m, hm⟩ : ∃ m, l.length = m := ⟨_, rfl⟩
  rw [hm] at c2 c2' HSR hl
  have HM := Lib.hid hm
  clear hm
  go_enter Tryd.func36, Tryd.ntmps36
  go_wp2_with fail
  with_reducible refine (rvalid_ok w g c0).mono ?_
  rintro e w1 ⟨rfl, rfl⟩
  cases ao with
  | none =>
    obtain ⟨rfl, rfl⟩ := HSR.out.nil rfl
    have hl0 : l = [] := List.eq_nil_of_length_eq_zero HM.out
    subst hl0
    go_wp2_with (at_builtin; apply keepIt)
    apply Lib.hid
    refine wpList_appendR (by first | rfl | decide) 45 (.agg #[.int .i64 0, .int .i64 0, .int .i64 0]) 3 24 Tryd.underlying22 Tryd.infoEdge rfl (by decide) _ 0 [] rfl HEM.out (.slice none 0 0) 0 [] rfl (World.ownsRow_nil _ _ _ _) (by simp) (by unfold maxLen; omega) (by omega) ?_
    intro v2 w2 ho2 hg2 hn2'
    have hnr := new_row ho2 hg2 hn2'
    have ho := hnr.own
    obtain ⟨ao2, cap2, b2, e2, he2, hk2⟩ := ERow.of_owns (l := []) ho
    subst e2
    have HFN : Hid (RePost w [] (.returned (.slice ao2 0 cap2)) w2) := ⟨⟨ao2, cap2, b2, rfl, he2, owns_nilcap ho, fun x hx => ⟨hnr.new x hx, hk2 x hx⟩⟩, hnr.bel⟩
    clear hnr ho he2 ho2 hg2 hn2' hk2
    go_wp2_with fail
    go_ret
    exact HFN.out
  | some ad =>
    have HSB := Lib.hid (HSR.out.below HB0.out)
    go_wp2_with (at_builtin; apply keepIt)
    apply Lib.hid
    refine wpList_appendB 45 (.agg #[.int .i64 0, .int .i64 0, .int .i64 0]) 3 24 Tryd.underlying22 Tryd.infoEdge rfl (by decide) _ 0 [] rfl HEM.out ad m cap (edCells l) rfl HSB.out.len (HSB.out.cell ad rfl) HSB.out.one (by unfold maxLen; omega) (by omega) ?_
    intro v2 w2 ho2 hg2 hn2'
    have hnr := new_row ho2 hg2 hn2'
    have ho := hnr.own
    rw [← HM.out] at ho
    obtain ⟨ao2, cap2, b2, e2, he2, hk2⟩ := ERow.of_owns ho
    subst e2
    have HFN : Hid (RePost w l (.returned (.slice ao2 l.length cap2)) w2) := ⟨⟨ao2, cap2, b2, rfl, he2, owns_nilcap ho, fun x hx => ⟨hnr.new x hx, hk2 x hx⟩⟩, hnr.bel⟩
    clear hnr ho he2 ho2 hg2 hn2' hk2
    go_wp2_with fail
    go_ret
    exact HFN.out

end Go.Proofs.YtenhbfbfkcjimaaDoor

/- The reference of layer 20: Joined; Count. -/
namespace Go.Proofs.YtenhbfbfkcjimaaDoor
set_option linter.unusedVariables false
set_option linter.unusedSimpArgs false
open Go.RowKit

/-- The labels at a threshold. -/
def labT (n : Nat) (l : List Ed) (th : Int) : List Nat := (foTo n l (cutT l th)).k
theorem lab_und {n : Nat} {l : List Ed} (hg : GOk n l) {th : Int} {K : List Nat} (h : IsLab n (EdR (undL l th) fun _ => True) K) : K = labT n l th := (h.congr (fun a b => und_edr a b)).unique (foTo_cut hg th)
theorem und_le {l : List Ed} {th : Int} : (undL l th).length ≤ l.length := List.length_filter_le _ _

def jnR (n : Nat) (l : List Ed) (u v th : Int) : Bool := inB u n && (inB v n && decide ((labT n l th).getD u.toNat 0 = (labT n l th).getD v.toNat 0))
theorem jnR_jnV {n : Nat} {l : List Ed} (hg : GOk n l) {u v th : Int} (ht : -9223372036854775808 ≤ th) : jnR n l u v th = jnV n l u v th := by
  unfold jnR
  by_cases hu : 0 ≤ u ∧ u < n
  · have eu : inB u n = true := by unfold inB; simp; omega
    by_cases hv : 0 ≤ v ∧ v < n
    · have ev : inB v n = true := by unfold inB; simp; omega
      rw [eu, ev, Bool.true_and, Bool.true_and]
      obtain ⟨a, rfl⟩ := Int.eq_ofNat_of_zero_le hu.1
      obtain ⟨b, rfl⟩ := Int.eq_ofNat_of_zero_le hv.1
      rw [Int.toNat_natCast, Int.toNat_natCast]
      by_cases hab : a = b
      · subst hab
        unfold jnV
        rw [mmV_self hu]
        simp [ht]
      · have h := mm_iff hg (u := a) (v := b) (by omega) (by omega) hab th
        unfold jnV labT
        cases hm : mmV n l (a : Int) (b : Int) with
        | none =>
          refine decide_eq_false fun e => ?_
          obtain ⟨d, hd, _⟩ := h.2 e
          rw [hm] at hd; cases hd
        | some d =>
          show decide _ = decide (d ≤ th)
          by_cases hd : d ≤ th
          · rw [decide_eq_true hd, decide_eq_true (h.1 ⟨d, hm, hd⟩)]
          · rw [decide_eq_false hd, decide_eq_false (fun e => by
              obtain ⟨d', hd', hle⟩ := h.2 e
              rw [hm] at hd'; injection hd' with hd'; omega)]
    · have ev : inB v n = false := by unfold inB; simp; omega
      rw [ev]
      unfold jnV
      cases hm : mmV n l u v with
      | none => simp
      | some d => exact absurd (mmV_in hm).2 hv
  · have eu : inB u n = false := by unfold inB; simp; omega
    rw [eu]
    unfold jnV
    cases hm : mmV n l u v with
    | none => simp
    | some d => exact absurd (mmV_in hm).1 hu

set_option maxHeartbeats 8000000 in
set_option maxRecDepth 100000 in
theorem rjoined_ok (w : World) (f g n : Nat) (l : List Ed) (h : R2Obj w f g n l) (hg : GOk n l) (u v th : Int) :
    Calls Tryd.prog 26 #[.pointer (some ⟨f, 0, none⟩), .int .i64 u, .int .i64 v, .int .i64 th] w (RetB (.bool (jnR n l u v th)) w) := by
  have HR := Lib.hid h
  have HG := Lib.hid hg
  have f0 := h.f.cell (i := 0) rfl
  clear h hg
  by_cases hu : 0 ≤ u ∧ u < n
  · have HU : Hid (inB u n = true) := by show _ = _; unfold inB; simp; omega
    by_cases hv : 0 ≤ v ∧ v < n
    · have HV : Hid (inB v n = true) := by show _ = _; unfold inB; simp; omega
      obtain ⟨ua, rfl⟩ := Int.eq_ofNat_of_zero_le hu.1
      obtain ⟨vb, rfl⟩ := Int.eq_ofNat_of_zero_le hv.1
      have ha : ua < n := by omega
      have hb : vb < n := by omega
      have HJ : Hid (jnR n l ua vb th = decide ((labT n l th).getD ua 0 = (labT n l th).getD vb 0)) := by
        show _ = _
        unfold jnR
        rw [HU.out, HV.out, Bool.true_and, Bool.true_and, Int.toNat_natCast, Int.toNat_natCast]
      go_enter Tryd.func26, Tryd.ntmps26
      go_wp2_with fail
      with_reducible refine (r2has_ok w f g n l HR.out ua).mono ?_
      rintro e w1 ⟨rfl, rfl⟩
      rw [HU.out]
      go_wp2_with fail
      with_reducible refine (r2has_ok w f g n l HR.out vb).mono ?_
      rintro e w1 ⟨rfl, rfl⟩
      rw [HV.out]
      go_wp2_with fail
      with_reducible refine (runder_ok w g n l HR.out.g HG.out.hl th).mono ?_
      rintro e w2 ⟨⟨g2, rfl, hg2⟩, hb2⟩
      have HG2 := Lib.hid hg2
      have HB2 := Lib.hid hb2
      clear hg2 hb2 f0
      go_wp2_with fail
      with_reducible refine (rlabels_ok w2 g2 n (undL l th) HG2.out (und_ok HG.out th)).mono ?_
      rintro e w3 ⟨⟨K, val, rfl, hK, hown, hnew⟩, hb3⟩
      have HB3 := Lib.hid (bel_then HB2.out hb3)
      have hKl := hK.len
      obtain rfl := lab_und HG.out hK
      obtain ⟨gb, gc, rfl, _⟩ := owns_form hown (show 0 < n by omega)
      have q0 := (ownN hown hKl ha).1
      have q1 := (ownN hown hKl hb).1
      clear hK hown hnew hb3 hKl HG2 HB2 HR HG HU HV hu hv
      generalize (labT n l th).getD ua 0 = ka at *
      generalize (labT n l th).getD vb 0 = kb at *
      have t2 : (ua : Int) < (n : Int) := by omega
      have t3 : (vb : Int) < (n : Int) := by omega
      have t4 : (0 : Int) ≤ (ua : Int) := by omega
      have t5 : (0 : Int) ≤ (vb : Int) := by omega
      clear ha hb
      by_cases e : ka = kb
      · have t6 : ((ka : Int) == (kb : Int)) = true := by simp [e]
        have HJ2 : Hid (jnR n l ua vb th = true) := HJ.out.trans (decide_eq_true e)
        subst e
        go_wp2_with fail
        go_quiet (fail)
        go_wp2_with fail
        go_ret
        exact ⟨by rw [HJ2.out]; rfl, bel_drewN HB3.out _⟩
      · have t6 : ((ka : Int) == (kb : Int)) = false := by simp; omega
        have HJ2 : Hid (jnR n l ua vb th = false) := HJ.out.trans (decide_eq_false e)
        clear e
        go_wp2_with fail
        go_quiet (fail)
        go_wp2_with fail
        go_ret
        exact ⟨by rw [HJ2.out]; rfl, bel_drewN HB3.out _⟩
    · have HV : Hid (inB v n = false) := by show _ = _; unfold inB; simp; omega
      have HJ : Hid (jnR n l u v th = false) := by show _ = _; unfold jnR; rw [HV.out]; simp
      clear hu hv
      go_enter Tryd.func26, Tryd.ntmps26
      go_wp2_with fail
      with_reducible refine (r2has_ok w f g n l HR.out u).mono ?_
      rintro e w1 ⟨rfl, rfl⟩
      rw [HU.out]
      go_wp2_with fail
      with_reducible refine (r2has_ok w f g n l HR.out v).mono ?_
      rintro e w1 ⟨rfl, rfl⟩
      rw [HV.out]
      go_wp2_with fail
      go_ret
      exact ⟨by rw [HJ.out]; rfl, Below.refl _ _⟩
  · have HU : Hid (inB u n = false) := by show _ = _; unfold inB; simp; omega
    have HJ : Hid (jnR n l u v th = false) := by show _ = _; unfold jnR; rw [HU.out]; simp
    clear hu
    go_enter Tryd.func26, Tryd.ntmps26
    go_wp2_with fail
    with_reducible refine (r2has_ok w f g n l HR.out u).mono ?_
    rintro e w1 ⟨rfl, rfl⟩
    rw [HU.out]
    go_wp2_with fail
    go_ret
    exact ⟨by rw [HJ.out]; rfl, Below.refl _ _⟩

end Go.Proofs.YtenhbfbfkcjimaaDoor
