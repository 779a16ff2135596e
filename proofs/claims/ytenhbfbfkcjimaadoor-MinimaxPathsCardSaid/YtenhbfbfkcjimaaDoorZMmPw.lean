/- The statement MinimaxPaths: the walk. -/
import Derived.Test.YtenhbfbfkcjimaaDoorZMgN
import Derived.Test.YtenhbfbfkcjimaaDoorZMgQ
import Derived.Test.YtenhbfbfkcjimaaDoorZMgO
namespace Go.Proofs.YtenhbfbfkcjimaaDoor
set_option linter.unusedVariables false
set_option linter.unusedSimpArgs false
open Go.RowKit Go.Shelf Go.Sort
attribute [local go_sem] Oper.semAt_some

/-- A list of numbers comes back. -/
structure PRow (w : World) (z : List Nat) (e : Ending) (w' : World) : Prop where
  out : ∃ ao cap b, e = .returned (.slice ao z.length cap) ∧ InRow .i64 w' ao z.length b 0 (nI z)
  bel : Below w.heap.size w w'

theorem PRow.nilr {w w' : World} {e : Ending} (he : e = .returned (.slice none 0 0)) (hb : Below w.heap.size w w') : PRow w [] e w' :=
  ⟨⟨none, 0, 0, he, ⟨rfl, fun h => by simp at h, fun i hi => by simp at hi⟩⟩, hb⟩

theorem path_len {n : Nat} {l : List Ed} (hg : GOk n l) {u v : Nat} (hu : u < n) (hc : Con (EdR l (InF n l)) u v) : ∃ z, PathTo n l v u z ∧ z.length < n := by
  obtain ⟨k, hk⟩ := Sh.of_con hc
  obtain ⟨p, h1, _, h3⟩ := path_of (S := InF n l) (fun i h => h) k u hk
  rw [← forL_rel] at hk
  obtain ⟨q, q1, q2, q3⟩ := Sh.chain (forL_pick hg) k u hu hk
  have := nodup_bound n q q2 (fun y hy => (q3 y hy).1)
  exact ⟨p, h1, by omega⟩

/-- The list that both have to return. -/
theorem path_both {n : Nat} {l : List Ed} (hg : GOk n l) (u v : Int) : ∃ z : List Nat, z.length ≤ 4096 ∧ ∀ w e w', PthPost w n l u v e w' → PRow w z e w' := by
  cases hm : mV n l u v with
  | none => exact ⟨[], Nat.zero_le _, fun w e w' h => PRow.nilr (h.no hm) h.bel⟩
  | some c =>
    obtain ⟨a, b, rfl, rfl, ha, hb, hab, _, hcon⟩ := mV_some hg hm
    obtain ⟨z, h1, h2⟩ := path_len hg ha hcon.symm
    have := hg.hn
    refine ⟨z, by omega, fun w e w' h => ?_⟩
    obtain ⟨p, val, hp, rfl, ho, _⟩ := h.yes c hm
    rw [Int.toNat_natCast, Int.toNat_natCast] at hp
    obtain rfl := hp.unique hg h1
    obtain ⟨ao, cap, b', rfl, hr, _⟩ := own_rowN ho rfl
    exact ⟨⟨ao, cap, b', rfl, hr⟩, h.bel⟩

/-- Both finders, as the rest of the statement sees them. -/
structure PtPack (w : World) (pa pb : Option Addr) (u v : Int) (z : List Nat) : Prop where
  le : z.length ≤ 4096
  p1 : ∀ W, Below w.heap.size w W → Calls Tryd.prog 18 #[.pointer pa, .int .i64 u, .int .i64 v] W (PRow W z)
  p2 : ∀ W, Below w.heap.size w W → Calls Tryd.prog 19 #[.pointer pb, .int .i64 u, .int .i64 v] W (PRow W z)

theorem PtPack.nil (w : World) (u v : Int) : PtPack w none none u v [] :=
  have no : ∀ W, NoHas (.pointer none) u W := fun W => (show NilF (.pointer none) W from .inl rfl).noHas u
  ⟨Nat.zero_le _, fun W _ => (path_no W _ ⟨_, rfl⟩ u v (no W)).mono fun e w' ⟨h1, h2⟩ => PRow.nilr h1 h2, fun W _ => (rpath_nil W u v).mono fun e w' ⟨h1, h2⟩ => PRow.nilr h1 h2⟩

theorem PtPack.of {w : World} {M : MB} {f g n : Nat} {l : List Ed} (hM : MObj w M n l) (hR : R2Obj w f g n l) (hg : GOk n l) (hT : Tab64 w) (u v : Int) : ∃ z, PtPack w (some ⟨M.f, 0, none⟩) (some ⟨f, 0, none⟩) u v z := by
  obtain ⟨z, hz, h⟩ := path_both hg u v
  exact ⟨z, hz, fun W hb => (path_ok W M n l (hM.below hb) hg (hT.below hb) u v).mono fun e w' hp => h W e w' hp, fun W hb => (rpath_ok W f g n l (hR.below hb) hg u v).mono fun e w' hp => h W e w' hp⟩

theorem two_keep {W w' : World} {g : Nat} {v1 v2 : Value} (h1 : Hid (W.cell? ⟨g, 0, none⟩ = some v1)) (h2 : Hid (W.cell? ⟨g, 1, none⟩ = some v2)) (hb : Below W.heap.size W w') :
    w'.cell? ⟨g, 0, none⟩ = some v1 ∧ w'.cell? ⟨g, 1, none⟩ = some v2 ∧ Below W.heap.size W w' :=
  ⟨(hb.cell (World.block_lt_of_cell? W _ h1.out)).trans h1.out, (hb.cell (World.block_lt_of_cell? W _ h2.out)).trans h2.out, hb⟩

set_option maxHeartbeats 16000000 in
set_option maxRecDepth 100000 in
theorem paths_law (w : World) (hT : Tab64 w) (n : Int) (ao : Option Addr) (m cap b off : Nat) (l : List Ed) (he : ERow w ao m b off l) (hm : m ≤ 9223372036854775807) (hnil : ao = none → cap = 0) (hn64 : -9223372036854775808 ≤ n ∧ n ≤ 9223372036854775807) (hw : WOk l) (u v th : Int) :
    Calls Tryd.prog 4 #[.int .i64 n, .slice ao m cap, .agg #[.int .i64 u, .int .i64 v, .int .i64 th]] w (RetB (.bool true) w) := by
  have HE := Lib.hid he
  have HNIL := Lib.hid hnil
  have H64 := Lib.hid hn64
  have HT := Lib.hid hT
  clear he hnil hn64 hT hw
  have HBX := Lib.hid (bel_alloc w (.cells #[.int .i64 u, .int .i64 v, .int .i64 th] 33))
  have HX : Hid (Blk (w.alloc (.cells #[.int .i64 u, .int .i64 v, .int .i64 th] 33)) w.heap.size 33 [.int .i64 u, .int .i64 v, .int .i64 th]) := Blk.new w 33 [.int .i64 u, .int .i64 v, .int .i64 th]
  go_enter Tryd.func4, Tryd.ntmps4
  go_wp2_with fail
  have HT0 := Lib.hid (HT.out.below HBX.out)
  have HE0 := Lib.hid (HE.out.below HBX.out)
  have HB0 := Lib.hid HBX.out
  clear HBX HT HE
  generalize w.alloc (.cells #[.int .i64 u, .int .i64 v, .int .i64 th] 33) = w0 at *
  with_reducible refine (small_ok w0 n ao m cap).mono ?_
  rintro e w1 ⟨rfl, rfl⟩
  cases smB n m with
  | false =>
    go_wp2_with fail
    with_reducible refine (mworks_ok w0 HT0.out).mono ?_
    rintro e w9 ⟨rfl, hb⟩
    have HB9 := Lib.hid (bel_then HB0.out hb)
    clear hb
    go_wp2_with fail
    go_ret
    exact ⟨rfl, HB9.out⟩
  | true =>
    go_wp2_with fail
    with_reducible refine (mnew_ok w0 n ao m cap b off l HE0.out hm HNIL.out H64.out).mono ?_
    rintro e w1 ⟨hbad, hok, hb⟩
    have HB1 := Lib.hid (bel_then HB0.out hb)
    have HT1 := Lib.hid (HT0.out.below hb)
    have HX1 := Lib.hid (HX.out.below hb HX.out.lt)
    have HE1 := Lib.hid (HE0.out.below hb)
    have HN := Lib.hid (r2new_ok w1 n ao m cap b off l HE1.out hm HNIL.out H64.out)
    obtain ⟨pa, z, rfl, hpk⟩ : ∃ pa z, e = .returned (.tuple #[.pointer pa, .int .i64 z]) ∧ ∀ e' w', R2Post w1 n l e' w' → ∃ pb z' L, e' = .returned (.tuple #[.pointer pb, .int .i64 z']) ∧ PtPack w' pa pb u v L := by
      by_cases h0 : newErr n l = 0
      · obtain ⟨M, rfl, hM⟩ := hok h0
        refine ⟨_, _, rfl, fun e' w' hp => ?_⟩
        obtain ⟨f, g, rfl, hR⟩ := hp.ok h0
        obtain ⟨k, rfl, hg⟩ := GOk.of_err h0
        rw [Int.toNat_natCast] at hM hR
        obtain ⟨L, hL⟩ := PtPack.of (hM.below hp.bel) hR hg (HT1.out.below hp.bel) u v
        exact ⟨_, _, L, rfl, hL⟩
      · obtain rfl := hbad h0
        exact ⟨_, _, rfl, fun e' w' hp => ⟨_, _, _, hp.bad h0, PtPack.nil w' u v⟩⟩
    have HPK := Lib.hid hpk
    clear hbad hok hpk hb HT0 HE0 HB0 HX HE1
    go_wp2_with fail
    with_reducible refine HN.out.mono ?_
    intro e w2 hp
    obtain ⟨pb, z', L, rfl, hpk⟩ := HPK.out _ _ hp
    have HP := Lib.hid hpk
    have HB2 := Lib.hid (bel_then HB1.out hp.bel)
    have HT2 := Lib.hid (HT1.out.below hp.bel)
    have HX2 := Lib.hid (HX1.out.below hp.bel HX1.out.lt)
    clear hp hpk HPK HN HB1 HT1 HX1
    have c0 := HX2.out.cell (i := 0) rfl
    have c1 := HX2.out.cell (i := 1) rfl
    have C0 := Lib.hid c0
    have C1 := Lib.hid c1
    go_upto_region 5 with fail
    go_region_held3 (fun w' => w'.cell? ⟨w.heap.size, 0, none⟩ = some (.int .i64 u) ∧ w'.cell? ⟨w.heap.size, 1, none⟩ = some (.int .i64 v) ∧ Below w2.heap.size w2 w')
      (((try go_split_ands); refine two_keep C0 C1 ?_; first | assumption | exact (Below.refl _ _).drew | exact Below.drew (by assumption)))
      (first
        | (go_at_call 18; (try go_split_ands); have hbw := (by assumption : Below w2.heap.size w2 _); (with_reducible refine (HP.out.p1 _ hbw).mono ?_); rintro e wa hp1; obtain ⟨aa, ka, ba, rfl, ra⟩ := hp1.out; have hx1 := hp1.bel; have hy1 := bel_then hbw hx1; clear hbw hx1 hp1)
        | (go_at_call 19; (try go_split_ands); have hbw := (by assumption : Below w2.heap.size w2 wa); (with_reducible refine (HP.out.p2 _ hbw).mono ?_); rintro e wb hp1; obtain ⟨ab, kb, bb, rfl, rb⟩ := hp1.out; have hx1 := hp1.bel; have hz1 := bel_then hbw hx1; have rc := ra.below hx1; clear hbw hx1 hp1 ra hy1)
        | (go_at_call 17; (try go_split_ands); have hbw := (by assumption : Below w2.heap.size w2 wb); (with_reducible refine (msame_ok _ aa ab _ ka kb ba bb 0 0 _ rc rb (Nat.le_trans HP.out.le (by omega))).mono ?_); rintro e wc ⟨rfl, hx1⟩; have hu1 := bel_then hbw hx1; clear hbw hx1 rc rb hz1)
        | (go_at_call 14; (try go_split_ands); have hbw := (by assumption : Below w2.heap.size w2 wc); (with_reducible refine (mworks_ok _ (HT2.out.below hbw)).mono ?_); rintro e wd ⟨rfl, hx2⟩; have hu2 := bel_then hbw hx2; clear hbw hx2 hu1))
    all_goals
      go_wp2_with fail
      go_ret
      exact ⟨rfl, bel_then HB2.out (by assumption)⟩

end Go.Proofs.YtenhbfbfkcjimaaDoor
