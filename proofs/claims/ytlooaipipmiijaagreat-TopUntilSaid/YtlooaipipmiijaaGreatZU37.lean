/- Several texts in one: WnM, WnN, WnP, WnQ. -/
import Derived.Test.YtlooaipipmiijaaGreatZU36
namespace Go.Proofs.YtlooaipipmiijaaGreat
set_option linter.unusedVariables false
set_option linter.unusedSimpArgs false
open Go.RowKit
theorem wl_insert {G G' : WnG} {all : List Rcd} {ge : Nat → GE} {F F' : Nat → Prop} {f' : FoG} {g' : SG} (hl : WnL G all) (he : WnE G ge F) {slot ia ib u v : Nat} {wt t x : Int} (hs : slot < G.g.E ∧ ¬ G.g.Lv slot)
    (gs : StL g' ∧ g'.V = G.g.V ∧ g'.E = G.g.E ∧ g'.last = G.g.last + 1 ∧ g'.Lv = (fun x => G.g.Lv x ∨ x = slot) ∧ (∀ s, G.g.Lv s → g'.R s = G.g.R s) ∧ g'.R slot = ⟨slot, G.g.last + 1, u, v, wt, t, x⟩ ∧ ∀ i, G.g.LvT i → g'.LvT i ∧ g'.D i = G.g.D i)
    (hf : FoP f' (upF ge slot ⟨ia, ib, x⟩) (fun t => G.g.Lv t ∨ t = slot) F') (fs : f'.V = G.f.V ∧ f'.S = G.f.S ∧ f'.Q = ins ((slot : Int), x) G.f.Q) (hia : g'.LvT ia ∧ g'.D ia = u) (hib : g'.LvT ib ∧ g'.D ib = v) (hx : x = t + G.W ∧ x ≤ 9223372036854775807) (ht : G.now = t)
    (e : G'.g = g' ∧ G'.f = f' ∧ G'.V = G.V ∧ G'.E = G.E ∧ G'.W = G.W ∧ G'.add = G.add + 1 ∧ G'.Q = ins ((slot : Int), x) G.Q ∧ G'.now = G.now) : WnL G' (all ++ [⟨u, v, wt, t⟩]) := by
  obtain ⟨g1, g2, g3, g4, g5, g6, g7, g8⟩ := gs
  obtain ⟨f1, f2, f3⟩ := fs
  obtain ⟨e1, e2, e3, e4, e5, e6, e7, e8⟩ := e
  have hcf := he.cfg
  refine ⟨⟨_, F', he.insert (r := ⟨slot, G.g.last + 1, u, v, wt, t, x⟩) hs.2 hf f1 f2 g1 g2 g3 g5 g6 g7 g8 hia hib hx e1 e2 e3 e4 e5 (by rw [g4, e6, he.last])⟩, by rw [e7, e2, f3, hl.q], by rw [e8]; exact hl.now, fun s k => ?_, ?_⟩
  · rw [e1] at k ⊢
    rw [g5] at k
    rw [e8]
    rcases k with k | k
    · rw [g6 s k]; exact hl.live s k
    · rw [k, g7]
      show G.now < x
      omega
  · obtain ⟨ss, s1, s2, s3⟩ := hl.all
    have hns : slot ∉ ss := fun c => hs.2 ((s2 slot).1 c)
    refine ⟨ss ++ [slot], nodup_snoc s1 hns, fun s => ?_, ?_⟩
    · rw [List.mem_append, List.mem_singleton, s2, e1, g5]
    · rw [List.map_append, s3, e1]
      have e9 : ss.map (fun s => (G.g.R s).rcd) = ss.map fun s => (g'.R s).rcd := List.map_congr_left fun s k => by rw [g6 s ((s2 s).1 k)]
      rw [e9]
      show _ = _ ++ [(g'.R slot).rcd]
      rw [g7]; rfl
structure WlR (w : World) (b : Nat) (G : WnG) (z u v : Nat) (wt t : Int) (q slot : Nat) (cs : List Value) (Gk : WnG) (W : World) : Prop where
  bx : WlB 33 w b G z [.int .u64 (u : Int), .int .u64 (v : Int), .int .i64 wt, .int .i64 t] Gk W
  bq : Blk W q 63 (.int .i64 (slot : Int) :: cs)
  nq : ¬ Gk.foot b q
theorem WlR.below {w W W1 : World} {b z u v q slot : Nat} {wt t : Int} {cs : List Value} {G Gk : WnG} (h : WlR w b G z u v wt t q slot cs Gk W) (hb : Below W.heap.size W W1) : WlR w b G z u v wt t q slot cs Gk W1 := ⟨h.bx.below hb, h.bq.below hb h.bq.lt, h.nq⟩
theorem WlR.step {w W W1 : World} {b z u v q slot : Nat} {wt t : Int} {cs : List Value} {G Gk G2 : WnG} (h : WlR w b G z u v wt t q slot cs Gk W) (k : WnS b Gk W G2 W1) : WlR w b G z u v wt t q slot cs G2 W1 :=
  ⟨h.bx.step k, (k.box h.bq h.nq).1, (k.box h.bq h.nq).2⟩
theorem WlR.keep {w w3 W : World} {b z u v q slot : Nat} {wt t : Int} {cs : List Value} {G Gk : WnG} (h : Hid (WlR w b G z u v wt t q slot cs Gk w3)) (hb : Below w3.heap.size w3 W) :
    W.cell? ⟨b, 4, none⟩ = some (.pointer (some ⟨Gk.cp, 0, none⟩)) ∧ W.cell? ⟨b, 5, none⟩ = some (.pointer (some ⟨Gk.sp, 0, none⟩)) ∧ W.cell? ⟨b, 6, none⟩ = some (.pointer (some ⟨Gk.ep, 0, none⟩)) ∧ W.cell? ⟨b, 7, none⟩ = some (.pointer (some ⟨Gk.fp, 0, none⟩)) ∧ W.cell? ⟨z, 0, none⟩ = some (.int .u64 (u : Int)) ∧ W.cell? ⟨z, 1, none⟩ = some (.int .u64 (v : Int)) ∧ W.cell? ⟨z, 2, none⟩ = some (.int .i64 wt) ∧ W.cell? ⟨z, 3, none⟩ = some (.int .i64 t) ∧ W.cell? ⟨q, 0, none⟩ = some (.int .i64 (slot : Int)) ∧ Below w3.heap.size w3 W := by
  have k := h.out.below hb
  exact ⟨k.bx.st.mem.c4, k.bx.st.mem.c5, k.bx.st.mem.c6, k.bx.st.mem.c7, k.bx.bz.cell (i := 0) rfl, k.bx.bz.cell (i := 1) rfl, k.bx.bz.cell (i := 2) rfl, k.bx.bz.cell (i := 3) rfl, k.bq.cell (i := 0) rfl, hb⟩
theorem WiP.rB {w W w5 : World} {b z u v slot : Nat} {wt t x : Int} {G G2 : WnG} {e : Ending} {cs : List Value} (h : WiP w b G z u v wt t x W slot G2 e w5) :
    WlR w b G z u v wt t w5.heap.size slot cs G2 (w5.alloc (.cells (.int .i64 (slot : Int) :: cs).toArray 63)) :=
  ⟨h.bx.alloc _, Blk.new w5 _ _, fun e => by have := h.bx.st.mem.foot_lt _ e; omega⟩
theorem WiP.rA {w w2 w5 : World} {b z u v slot : Nat} {wt t x : Int} {G G2 : WnG} {e : Ending} {v1 v2 v3 v4 v5 v6 : Value} (hi : WlB 33 w b G z [.int .u64 (u : Int), .int .u64 (v : Int), .int .i64 wt, .int .i64 t] G w2) (h : WiP w b G z u v wt t x (w2.alloc (.cells #[.int .i64 0, .int .u64 0, .int .u64 0, .int .u64 0, .int .i64 0, .int .i64 0, .int .i64 0] 63)).drew slot G2 e w5) :
    WlR w b G z u v wt t w2.heap.size slot [v1, v2, v3, v4, v5, v6] G2 (((((((w5.setCell ⟨w2.heap.size, 0, none⟩ (.int .i64 (slot : Int))).setCell ⟨w2.heap.size, 1, none⟩ v1).setCell ⟨w2.heap.size, 2, none⟩ v2).setCell ⟨w2.heap.size, 3, none⟩ v3).setCell ⟨w2.heap.size, 4, none⟩ v4).setCell ⟨w2.heap.size, 5, none⟩ v5).setCell ⟨w2.heap.size, 6, none⟩ v6) := by
  have hb := wi_box hi.st.mem h.st
  exact ⟨WiP.setA hi h, ((((((hb.1.set 0 (.int .i64 (slot : Int))).set 1 v1).set 2 v2).set 3 v3).set 4 v4).set 5 v5).set 6 v6, hb.2⟩
end Go.Proofs.YtlooaipipmiijaaGreat

namespace Go.Proofs.YtlooaipipmiijaaGreat
set_option linter.unusedVariables false
set_option linter.unusedSimpArgs false
open Go.RowKit
set_option maxHeartbeats 800000 in
set_option maxRecDepth 100000 in
theorem wn_insert (w : World) (b : Nat) (G : WnG) (all : List Rcd) (h : WnM w b G) (hl : WnL G all) (u v : Nat) (wt : Int) (hu : u < 18446744073709551616) (hv : v < 18446744073709551616) (hck : stChk G.g u v = 0) (hex : G.now + G.W ≤ 9223372036854775807) (had : G.add < 1000000) :
    Calls Tryz.prog 21 #[.pointer (some ⟨b, 0, none⟩), .agg #[.int .u64 (u : Int), .int .u64 (v : Int), .int .i64 wt, .int .i64 G.now]] w (WnIn w b G all ⟨u, v, wt, G.now⟩) := by
  have H := Lib.hid h
  have HL := Lib.hid hl
  obtain ⟨ge, F, he⟩ := hl.ed
  have HE := Lib.hid he
  have HU : Hid (u < 18446744073709551616 ∧ v < 18446744073709551616) := ⟨hu, hv⟩
  have HCK := Lib.hid hck
  have HEX : Hid (caddV G.now G.W = G.now + G.W ∧ G.now + G.W ≤ 9223372036854775807) := by
    refine ⟨?_, hex⟩
    have := hl.now
    have := he.cfg
    unfold caddV
    rw [if_pos (by omega)]
  have HAD := Lib.hid had
  have HNW := Lib.hid hl.now
  have HI0 := Lib.hid (WlB.start (T := 33) (WnS.refl h) [.int .u64 (u : Int), .int .u64 (v : Int), .int .i64 wt, .int .i64 G.now])
  generalize htt : G.now = t at *
  clear h hl he hu hv hck hex had
  go_enter Tryz.func21, Tryz.ntmps21
  go_upto_region 1 with fail
  simp only [List.toArray] at HI0
  generalize w.alloc (.cells #[.int .u64 (u : Int), .int .u64 (v : Int), .int .i64 wt, .int .i64 t] 33) = w1 at *
  generalize w.heap.size = z at *
  have HXP : Hid (∀ W, WlZ w b G z u v wt t W → Calls Tryz.prog 48 #[.pointer (some ⟨G.cp, 0, none⟩), .int .i64 t] W (fun e w' => e = .returned (.tuple #[.int .i64 (caddV t G.W), .int .i64 (caddE t G.W)]) ∧ w' = W)) := by
    show ∀ W, _
    rintro W ⟨Gk, h1, h2, h3, h4, h5, h6, h7⟩
    have := clk_expiry W Gk.cp Gk.W Gk.now t h1.st.mem.clk (by have := HNW.out; omega)
    rw [h2, h6] at this
    exact this
  generalize hx : caddV t G.W = x at *
  generalize caddE t G.W = y at *
  have HZ0 := Lib.hid (WlZ.mk HI0.out)
  go_cut [4, 5] (fun s4 s5 wx => s4 = .int .i64 x ∧ s5 = .int .i64 y ∧ WlB 33 w b G z [.int .u64 (u : Int), .int .u64 (v : Int), .int .i64 wt, .int .i64 t] G wx)
  case first =>
    go_region_held3 (fun w' => w'.cell? ⟨b, 4, none⟩ = some (.pointer (some ⟨G.cp, 0, none⟩)) ∧ w'.cell? ⟨b, 5, none⟩ = some (.pointer (some ⟨G.sp, 0, none⟩)) ∧ w'.cell? ⟨b, 6, none⟩ = some (.pointer (some ⟨G.ep, 0, none⟩)) ∧ w'.cell? ⟨b, 7, none⟩ = some (.pointer (some ⟨G.fp, 0, none⟩)) ∧ w'.cell? ⟨z, 0, none⟩ = some (.int .u64 (u : Int)) ∧ w'.cell? ⟨z, 1, none⟩ = some (.int .u64 (v : Int)) ∧ w'.cell? ⟨z, 2, none⟩ = some (.int .i64 wt) ∧ w'.cell? ⟨z, 3, none⟩ = some (.int .i64 t) ∧ WlZ w b G z u v wt t w')
      (((try go_split_ands); refine WlZ.keep ?_; first | with_reducible assumption | with_reducible exact HZ0.out | with_reducible exact WlZ.below HZ0.out ((Below.refl _ _).drew)))
      ((go_at_call 48; (try go_split_ands); refine (HXP.out _ (by assumption)).mono ?_; rintro e w' ⟨rfl, rfl⟩))
    all_goals
      go_wp2_with fail
      go_meet
      exact ⟨rfl, rfl, HI0.out.drew⟩
  case rest =>
    obtain ⟨rfl, rfl, hI⟩ := hcut
    have HI1 := Lib.hid hI
    clear hI
    generalize wc = w2 at *
    clear HZ0 HXP HI0
    go_upto_region 2 with fail
    have HIN : Hid (∀ W, WlB 33 w b G z [.int .u64 (u : Int), .int .u64 (v : Int), .int .i64 wt, .int .i64 t] G W → Calls Tryz.prog 49 #[.pointer (some ⟨G.sp, 0, none⟩), .agg #[.int .u64 u, .int .u64 v, .int .i64 wt, .int .i64 t], .int .i64 x] W (fun e W' => ∃ slot G2, WiP w b G z u v wt t x W slot G2 e W')) :=
      fun W hW => wi_insert hW HE.out.stl HU.out.1 HU.out.2 (by have := HE.out.last; have := HAD.out; omega) HCK.out
    have HZ1 := Lib.hid (WlZ.mk HI1.out)
    go_cut [6, 7] (fun s6 s7 wx => ∃ (q slot : Nat) (cs : List Value) (G2 : WnG), s6 = .pointer (some ⟨q, 0, none⟩) ∧ s7 = .int .i64 0 ∧ WlR w b G z u v wt t q slot cs G2 wx ∧ ∃ W e W', WiP w b G z u v wt t x W slot G2 e W')
    case first =>
      go_region_held3 (fun w' => w'.cell? ⟨b, 4, none⟩ = some (.pointer (some ⟨G.cp, 0, none⟩)) ∧ w'.cell? ⟨b, 5, none⟩ = some (.pointer (some ⟨G.sp, 0, none⟩)) ∧ w'.cell? ⟨b, 6, none⟩ = some (.pointer (some ⟨G.ep, 0, none⟩)) ∧ w'.cell? ⟨b, 7, none⟩ = some (.pointer (some ⟨G.fp, 0, none⟩)) ∧ w'.cell? ⟨z, 0, none⟩ = some (.int .u64 (u : Int)) ∧ w'.cell? ⟨z, 1, none⟩ = some (.int .u64 (v : Int)) ∧ w'.cell? ⟨z, 2, none⟩ = some (.int .i64 wt) ∧ w'.cell? ⟨z, 3, none⟩ = some (.int .i64 t) ∧ WlZ w b G z u v wt t w')
        (((try go_split_ands); refine WlZ.keep ?_; first | with_reducible assumption | with_reducible exact HZ1.out | with_reducible exact HSA.out _ _ _ _ _ _ _ | with_reducible exact WlZ.below HZ1.out ((Below.refl _ _).drew) | with_reducible exact WlZ.below (by with_reducible assumption) (bel_alloc _ _) | with_reducible exact WlZ.below (WlZ.below HZ1.out (bel_alloc _ _)) ((Below.refl _ _).drew)))
        (first | (go_at_call 49; (try go_split_ands); refine (HIN.out _ (by with_reducible exact HI1.out.drew)).mono ?_; rintro e w5 ⟨slot, G2, hpo⟩; have HPB := Lib.hid hpo; obtain ⟨hval, hst, hbx, _, _, hsm⟩ := hpo; subst hval; have hwz : WlZ w b G z u v wt t w5 := ⟨G2, hbx, hsm.2.2.2.2.2.1, hsm.2.2.2.2.2.2.1, hsm.2.2.2.2.2.2.2.1, hsm.2.2.2.2.2.2.2.2.2.1, hsm.1, hsm.2.2.2.2.1⟩;  clear hst hbx hsm) | (go_at_call 49; (try go_split_ands); refine (HIN.out _ (by with_reducible exact (HI1.out.alloc _).drew)).mono ?_; rintro e w5 ⟨slot, G2, hpo⟩; have HPA := Lib.hid hpo; obtain ⟨hval, hst, hbx, _, _, hsm⟩ := hpo; subst hval; have hwz : WlZ w b G z u v wt t w5 := ⟨G2, hbx, hsm.2.2.2.2.2.1, hsm.2.2.2.2.2.2.1, hsm.2.2.2.2.2.2.2.1, hsm.2.2.2.2.2.2.2.2.2.1, hsm.1, hsm.2.2.2.2.1⟩; have BQ := (wi_box HI1.out.st.mem hst).1; have q0 := BQ.cell (i := 0) rfl; have q1 := BQ.cell (i := 1) rfl; have q2 := BQ.cell (i := 2) rfl; have q3 := BQ.cell (i := 3) rfl; have q4 := BQ.cell (i := 4) rfl; have q5 := BQ.cell (i := 5) rfl; have q6 := BQ.cell (i := 6) rfl; have p0 := BQ.free 0; have p1 := BQ.free 1; have p2 := BQ.free 2; have p3 := BQ.free 3; have p4 := BQ.free 4; have p5 := BQ.free 5; have p6 := BQ.free 6; have HSA := Lib.hid (fun v0 v1 v2 v3 v4 v5 v6 => WiP.wlz HPA.out (WiP.setA (v0 := v0) (v1 := v1) (v2 := v2) (v3 := v3) (v4 := v4) (v5 := v5) (v6 := v6) HI1.out HPA.out)); clear hst hbx hsm))
      · go_wp2_with fail
        go_meet
        exact ⟨_, slot, _, G2, rfl, rfl, HPB.out.rB, _, _, _, HPB.out⟩
      · go_wp2_with fail
        go_meet
        exact ⟨_, slot, _, G2, rfl, rfl, HPA.out.rA HI1.out, _, _, _, HPA.out⟩
    case rest =>
      obtain ⟨q, slot, cs, G2, rfl, rfl, hr, _, _, _, hpo⟩ := hcut
      have HR3 := Lib.hid hr
      have HPO := Lib.hid hpo
      clear hr hpo HI1 HIN HZ1
      generalize wc = w3 at *
      go_upto_region 3 with fail
      obtain ⟨ia, HIA⟩ : ∃ i, Hid (G2.g.LvT i ∧ G2.g.D i = u) := by
        obtain ⟨g1, g2, g3, g4, g5, g6, g7, g8⟩ := HPO.out.gs
        exact end_known g1 (s := slot) ⟨by rw [g5]; exact .inr rfl, .inl (by rw [g7])⟩
      obtain ⟨ib, HIB⟩ : ∃ i, Hid (G2.g.LvT i ∧ G2.g.D i = v) := by
        obtain ⟨g1, g2, g3, g4, g5, g6, g7, g8⟩ := HPO.out.gs
        exact end_known g1 (s := slot) ⟨by rw [g5]; exact .inr rfl, .inr (by rw [g7])⟩
      have HIX : Hid (∀ W, Below w3.heap.size w3 W → Calls Tryz.prog 50 #[.pointer (some ⟨G2.sp, 0, none⟩), .int .u64 (u : Int)] W (RetB (.tuple #[.int .i64 (ia : Int), .bool true]) W)) := by
        show ∀ W, _
        intro W hb
        have := st_index W G2.sp G2.g (HR3.out.below hb).bx.st.mem.sto u
        rw [gix_some HPO.out.gs.1.ids.inj HIA.out.1 HIA.out.2] at this
        exact this
      go_cut [8, 9] (fun s8 s9 wx => s8 = .int .i64 (ia : Int) ∧ s9 = .bool true ∧ Below w3.heap.size w3 wx)
      case first =>
        go_region_held3 (fun w' => w'.cell? ⟨b, 4, none⟩ = some (.pointer (some ⟨G2.cp, 0, none⟩)) ∧ w'.cell? ⟨b, 5, none⟩ = some (.pointer (some ⟨G2.sp, 0, none⟩)) ∧ w'.cell? ⟨b, 6, none⟩ = some (.pointer (some ⟨G2.ep, 0, none⟩)) ∧ w'.cell? ⟨b, 7, none⟩ = some (.pointer (some ⟨G2.fp, 0, none⟩)) ∧ w'.cell? ⟨z, 0, none⟩ = some (.int .u64 (u : Int)) ∧ w'.cell? ⟨z, 1, none⟩ = some (.int .u64 (v : Int)) ∧ w'.cell? ⟨z, 2, none⟩ = some (.int .i64 wt) ∧ w'.cell? ⟨z, 3, none⟩ = some (.int .i64 t) ∧ w'.cell? ⟨q, 0, none⟩ = some (.int .i64 (slot : Int)) ∧ Below w3.heap.size w3 w')
          (((try go_split_ands); refine WlR.keep HR3 ?_; first | assumption | exact (Below.refl _ _) | exact (Below.refl _ _).drew | exact (Below.drew (by assumption))))
          ((go_at_call 50; (try go_split_ands); refine (HIX.out _ (by assumption)).mono ?_; rintro e w' ⟨rfl, hb⟩; have hbx := bel_next (by assumption) hb; clear hb))
        all_goals
          go_wp2_with fail
          go_meet
          exact ⟨rfl, rfl, by assumption⟩
      case rest =>
        obtain ⟨rfl, rfl, hb⟩ := hcut
        have HR4 := Lib.hid (HR3.out.below hb)
        clear hb HR3 HIX
        generalize wc = w4 at *
        go_upto_region 4 with fail
        have HIX : Hid (∀ W, Below w4.heap.size w4 W → Calls Tryz.prog 50 #[.pointer (some ⟨G2.sp, 0, none⟩), .int .u64 (v : Int)] W (RetB (.tuple #[.int .i64 (ib : Int), .bool true]) W)) := by
          show ∀ W, _
          intro W hb
          have := st_index W G2.sp G2.g (HR4.out.below hb).bx.st.mem.sto v
          rw [gix_some HPO.out.gs.1.ids.inj HIB.out.1 HIB.out.2] at this
          exact this
        go_cut [10, 11] (fun s8 s9 wx => s8 = .int .i64 (ib : Int) ∧ s9 = .bool true ∧ Below w4.heap.size w4 wx)
        case first =>
          go_region_held3 (fun w' => w'.cell? ⟨b, 4, none⟩ = some (.pointer (some ⟨G2.cp, 0, none⟩)) ∧ w'.cell? ⟨b, 5, none⟩ = some (.pointer (some ⟨G2.sp, 0, none⟩)) ∧ w'.cell? ⟨b, 6, none⟩ = some (.pointer (some ⟨G2.ep, 0, none⟩)) ∧ w'.cell? ⟨b, 7, none⟩ = some (.pointer (some ⟨G2.fp, 0, none⟩)) ∧ w'.cell? ⟨z, 0, none⟩ = some (.int .u64 (u : Int)) ∧ w'.cell? ⟨z, 1, none⟩ = some (.int .u64 (v : Int)) ∧ w'.cell? ⟨z, 2, none⟩ = some (.int .i64 wt) ∧ w'.cell? ⟨z, 3, none⟩ = some (.int .i64 t) ∧ w'.cell? ⟨q, 0, none⟩ = some (.int .i64 (slot : Int)) ∧ Below w4.heap.size w4 w')
            (((try go_split_ands); refine WlR.keep HR4 ?_; first | assumption | exact (Below.refl _ _) | exact (Below.refl _ _).drew | exact (Below.drew (by assumption))))
            ((go_at_call 50; (try go_split_ands); refine (HIX.out _ (by assumption)).mono ?_; rintro e w' ⟨rfl, hb⟩; have hbx := bel_next (by assumption) hb; clear hb))
          all_goals
            go_wp2_with fail
            go_meet
            exact ⟨rfl, rfl, by assumption⟩
        case rest =>
          obtain ⟨rfl, rfl, hb⟩ := hcut
          have HR5 := Lib.hid (HR4.out.below hb)
          clear hb HR4 HIX
          generalize wc = w5 at *
          go_upto_region 5 with fail
          refine region_tailD 7 (by kernel_rfl) (by kernel_rfl) ?_
          intro w6 hw6
          have HR6 := Lib.hid (HR5.out.below hw6.self)
          clear hw6 HR5
          have c6 := HR6.out.bx.st.mem.c6
          have q0 := HR6.out.bq.cell (i := 0) rfl
          have HSE : Hid (Calls Tryz.prog 51 #[.pointer (some ⟨G2.ep, 0, none⟩), .int .i64 (slot : Int), .int .i64 x] w6 (EDone (.int .i64 0) w6 G2.ep G2.E (ins ((slot : Int), x) G.Q) G2.qp G2.qg)) := by
            obtain ⟨s1, s2, s3, s4, s5, s6, s7, s8, s9, s10, s11, s12, s13, s14⟩ := HPO.out.same
            have := eset_ok w6 G2.ep G2.E G2.Q G2.qp G2.qg HR6.out.bx.st.mem.sch slot x (by have := HPO.out.sl.1; rw [HE.out.gE] at this; rw [s2]; exact this)
            rw [s11, del_self (fun e he => by
              obtain ⟨i, k⟩ := e
              rw [HL.out.q] at he
              obtain ⟨s, h1, h2, h3⟩ := HE.out.ent.1 he
              intro c
              have c' : i = (slot : Int) := c
              have : s = slot := by omega
              subst this
              exact HPO.out.sl.2 h2)] at this
            exact this
          simp only [List.take_succ_cons, List.take_zero, List.drop_succ_cons, List.drop_zero]
          repeat still_step
          refine wpStill_nil ?_
          clear c6 q0
          go_upto_region 6 with (go_at_call 51; refine HSE.out.mono ?_; rintro e w7 ⟨rfl, qg', ho, hmd, hft⟩; have HR7 := Lib.hid (HR6.out.step (HR6.out.bx.st.mem.sSch hmd ho hft)); clear ho hmd hft)
          clear HR6 HSE
          generalize hcol : reco w6 G2.col 3 = col at *
          clear hcol
          refine region_tailD 9 (by kernel_rfl) (by kernel_rfl) ?_
          intro w8 hw8
          have HR8 := Lib.hid (HR7.out.below hw8.self)
          clear hw8 HR7
          have c7 := HR8.out.bx.st.mem.c7
          have q0 := HR8.out.bq.cell (i := 0) rfl
          have HFA : Hid (Calls Tryz.prog 52 #[.pointer (some ⟨G2.fp, 0, none⟩), .int .i64 (slot : Int), .int .i64 (ia : Int), .int .i64 (ib : Int), .int .i64 x] w8 (FoAd w8 G2.fp G2.f ge G.g.Lv slot ia ib x)) := by
            obtain ⟨s1, s2, s3, s4, s5, s6, s7, s8, s9, s10, s11, s12, s13, s14⟩ := HPO.out.same
            obtain ⟨g1, g2, g3, g4, g5, g6, g7, g8⟩ := HPO.out.gs
            have huv : u ≠ v := by
              intro c
              have := HCK.out
              unfold stChk at this
              rw [if_pos c] at this
              cases this
            have hVV : ∀ i, G2.g.LvT i → i < G2.f.V := fun i k => by
              have := g1.ids.lvT i k
              rw [g2, HE.out.gV] at this
              rw [s13, HE.out.fV]; exact this
            refine fo_add w8 G2.fp G2.f ge G.g.Lv F HR8.out.bx.st.mem.fo (by rw [s13]; exact HE.out.fo) slot ia ib x ?_ (hVV _ HIA.out.1) (hVV _ HIB.out.1) ?_ ?_ HPO.out.sl.2
            · have := HPO.out.sl.1
              rw [HE.out.gE] at this
              rw [s13, HE.out.fS]; exact this
            · intro c
              rw [c] at HIA
              exact huv (HIA.out.2.symm.trans HIB.out.2)
            · have := HEX.out; omega
          simp only [List.take_succ_cons, List.take_zero, List.drop_succ_cons, List.drop_zero]
          repeat still_step
          refine wpStill_nil ?_
          clear c7 q0
          go_upto_region 7 with (go_at_call 52; refine HFA.out.mono ?_; rintro e w9 ⟨rfl, f', F', hst, hfp, hfs⟩; have HR9 := Lib.hid (HR8.out.step (HR8.out.bx.st.mem.sFo hst)); have HFP := Lib.hid hfp; have HFS := Lib.hid hfs; clear hst hfp hfs)
          clear HR8 HFA
          have c8 := HR9.out.bx.st.mem.c8
          have f8 := HR9.out.bx.st.mem.box.free 8
          have HSA := Lib.hid (HPO.out.same.2.2.2.2.2.2.2.2.2.2.2.2.2)
          have hwa : IntKind.u64.wrap ((G2.add : Int) + 1) = ((G2.add + 1 : Nat) : Int) := by
            have h1 := HSA.out
            have h2 := HAD.out
            show (_ : Int) % 18446744073709551616 = _
            omega
          have HFIN := Lib.hid (HR9.out.bx.st.trans (HR9.out.bx.st.mem.sAdd (G2.add + 1)))
          go_wp2_with fail
          go_end0
          obtain ⟨s1, s2, s3, s4, s5, s6, s7, s8, s9, s10, s11, s12, s13, s14⟩ := HPO.out.same
          have hfs := HFS.out
          rw [s13] at hfs
          refine ⟨rfl, _, HFIN.out, ⟨s1, s2, s3, s4⟩, s5, by rw [← s14], ?_⟩
          refine wl_insert HL.out HE.out HPO.out.sl HPO.out.gs HFP.out hfs HIA.out HIB.out ⟨HEX.out.1, by have := HEX.out; omega⟩ htt ⟨rfl, rfl, s3, s2, s1, by rw [← s14], ?_, s5⟩
          rfl
end Go.Proofs.YtlooaipipmiijaaGreat

namespace Go.Proofs.YtlooaipipmiijaaGreat
set_option linter.unusedVariables false
set_option linter.unusedSimpArgs false
def LvR (g : SG) (all : List Rcd) : Prop := ∃ ss : List Nat, ss.Nodup ∧ (∀ s, s ∈ ss ↔ g.Lv s) ∧ all = ss.map (fun s => (g.R s).rcd)
section
variable {g : SG} {all : List Rcd}
theorem LvR.mem (hl : LvR g all) {r : Rcd} : r ∈ all ↔ ∃ s, g.Lv s ∧ (g.R s).rcd = r := by
  obtain ⟨ss, s1, s2, s3⟩ := hl
  rw [s3, List.mem_map]
  exact ⟨fun ⟨s, h1, h2⟩ => ⟨s, (s2 s).1 h1, h2⟩, fun ⟨s, h1, h2⟩ => ⟨s, (s2 s).2 h1, h2⟩⟩
theorem LvR.len (hl : LvR g all) (he : StL g) : cntP g.Lv g.E = all.length := by
  obtain ⟨ss, s1, s2, s3⟩ := hl
  rw [s3, List.length_map]
  exact cnt_names (D := fun s => s) s1 (fun x y _ _ _ _ e => e) fun y => by
    rw [s2]
    exact ⟨fun h => ⟨y, he.lvE y h, h, rfl⟩, fun ⟨x, _, h, e⟩ => e ▸ h⟩
theorem LvR.table (hl : LvR g all) (he : StL g) (x : Nat) : (∃ i, g.LvT i ∧ g.D i = x) ↔ x ∈ idsL all := by
  rw [← he.ids.table, he.ids.known, mem_idsL]
  constructor
  · rintro ⟨s, h1, h2⟩
    exact ⟨_, hl.mem.2 ⟨s, h1, rfl⟩, h2⟩
  · rintro ⟨r, h1, h2⟩
    obtain ⟨s, h3, rfl⟩ := hl.mem.1 h1
    exact ⟨s, h3, h2⟩
theorem LvR.ids (hl : LvR g all) (he : StL g) : cntP g.LvT g.V = (idsL all).length :=
  cnt_names (D := g.D) (nodup_idsL all) (fun x y _ _ hx hy e => he.ids.inj x y hx hy e) fun y => by
    rw [← hl.table he]
    exact ⟨fun ⟨i, h1, h2⟩ => ⟨i, he.ids.lvT i h1, h1, h2⟩, fun ⟨i, _, h1, h2⟩ => ⟨i, h1, h2⟩⟩
theorem LvR.known (hl : LvR g all) (he : StL g) {x : Nat} (h : x ∈ idsL all) : ∃ i, gix g.LvT g.D x = some i ∧ g.LvT i ∧ g.D i = x := by
  obtain ⟨i, h1, h2⟩ := (hl.table he x).2 h
  exact ⟨i, gix_some he.ids.inj h1 h2, h1, h2⟩
theorem LvR.unknown (hl : LvR g all) (he : StL g) {x : Nat} (h : x ∉ idsL all) : (gix g.LvT g.D x).isSome = false := by
  rw [gix_none fun i h1 h2 => h ((hl.table he x).1 ⟨i, h1, h2⟩)]; rfl
theorem LvR.chk (hl : LvR g all) (he : StL g) (r : Rcd) (hn : r.u ≠ r.v) : stChk g r.u r.v = chkL g.E g.V all r := by
  have new : ∀ x, newN g x = if x ∈ idsL all then 0 else 1 := fun x => by
    unfold newN
    by_cases c : x ∈ idsL all
    · obtain ⟨i, h, _⟩ := hl.known he c
      rw [h, if_pos c]; rfl
    · rw [hl.unknown he c, if_neg c]; rfl
  unfold stChk chkL
  rw [if_neg hn, hl.len he, hl.ids he, new, new, idsL_snoc]
  unfold addR
  rw [len_addI, len_addI]
  have e : (if r.v ∈ addI (idsL all) r.u then 0 else 1) = (if r.v ∈ idsL all then 0 else 1 : Nat) := by
    by_cases c : r.v ∈ idsL all
    · rw [if_pos c, if_pos (mem_addI.2 (.inl c))]
    · rw [if_neg c, if_neg]
      intro k
      rcases mem_addI.1 k with k | k
      · exact c k
      · exact hn k.symm
  rw [e]
end
section
variable {G : WnG} {all : List Rcd} {ge : Nat → GE} {F : Nat → Prop}
theorem WnL.lvr (hl : WnL G all) : LvR G.g all := hl.all
theorem WnL.mem (hl : WnL G all) {r : Rcd} : r ∈ all ↔ ∃ s, G.g.Lv s ∧ (G.g.R s).rcd = r := hl.lvr.mem
theorem WnL.times (hl : WnL G all) (he : WnE G ge F) {s : Nat} (hs : G.g.Lv s) : MINT < (G.g.R s).t := by
  have h1 := hl.live s hs
  have h2 := he.ex s hs
  have h3 := hl.now
  have h4 := he.cfg
  unfold MINT
  omega
theorem WnL.len (hl : WnL G all) (he : WnE G ge F) : cntP G.g.Lv G.g.E = all.length := hl.lvr.len he.stl
theorem WnL.table (hl : WnL G all) (he : WnE G ge F) (x : Nat) : (∃ i, G.g.LvT i ∧ G.g.D i = x) ↔ x ∈ idsL all := hl.lvr.table he.stl x
theorem WnL.ids (hl : WnL G all) (he : WnE G ge F) : cntP G.g.LvT G.g.V = (idsL all).length := hl.lvr.ids he.stl
theorem WnL.known (hl : WnL G all) (he : WnE G ge F) {x : Nat} (h : x ∈ idsL all) : ∃ i, gix G.g.LvT G.g.D x = some i ∧ G.g.LvT i ∧ G.g.D i = x := hl.lvr.known he.stl h
theorem WnL.unknown (hl : WnL G all) (he : WnE G ge F) {x : Nat} (h : x ∉ idsL all) : (gix G.g.LvT G.g.D x).isSome = false := hl.lvr.unknown he.stl h
def LvF (G : WnG) (t : Int) (s : Nat) : Prop := G.g.Lv s ∧ t ≤ (G.g.R s).t
theorem WnL.toId (hl : WnL G all) (he : WnE G ge F) {t : Int} {i j : Nat} (hi : G.g.LvT i) (h : Rch (Lnk ge (LvF G t)) i j) : G.g.LvT j ∧ Rch (RL all t) (G.g.D i) (G.g.D j) := by
  induction h with
  | refl => exact ⟨hi, .refl⟩
  | @step a b _ k ih =>
    obtain ⟨s, ⟨h1, h2⟩, k⟩ := k
    obtain ⟨_, ⟨h4, h5⟩, h6, h7⟩ := he.ge s h1
    have hm := hl.mem.2 ⟨s, h1, rfl⟩
    rcases k with ⟨e1, e2⟩ | ⟨e1, e2⟩
    · rw [e1] at h5
      rw [e2] at h6 h7
      exact ⟨h6, ih.2.step ⟨_, hm, h2, .inl ⟨h5.symm, h7.symm⟩⟩⟩
    · rw [e1] at h4 h5
      rw [e2] at h7
      exact ⟨h4, ih.2.step ⟨_, hm, h2, .inr ⟨h5.symm, h7.symm⟩⟩⟩
theorem WnL.toIx (hl : WnL G all) (he : WnE G ge F) {t : Int} {x y : Nat} (h : Rch (RL all t) x y) {i : Nat} (hi : G.g.LvT i) (hx : G.g.D i = x) : ∃ j, G.g.LvT j ∧ G.g.D j = y ∧ Rch (Lnk ge (LvF G t)) i j := by
  induction h with
  | refl => exact ⟨i, hi, hx, .refl⟩
  | @step a b _ k ih =>
    obtain ⟨j, h1, h2, h3⟩ := ih
    obtain ⟨r, hr, ht, k⟩ := k
    obtain ⟨s, hs, rfl⟩ := hl.mem.1 hr
    obtain ⟨_, ⟨h4, h5⟩, h6, h7⟩ := he.ge s hs
    have hinj := he.stl.ids.inj
    rcases k with ⟨e1, e2⟩ | ⟨e1, e2⟩
    · have e : (ge s).a = j := hinj _ _ h4 h1 (by rw [h5, h2]; exact e1)
      exact ⟨_, h6, by rw [h7]; exact e2, h3.step ⟨s, ⟨hs, ht⟩, .inl ⟨e, rfl⟩⟩⟩
    · have e : (ge s).b = j := hinj _ _ h6 h1 (by rw [h7, h2]; exact e2)
      exact ⟨_, h4, by rw [h5]; exact e1, h3.step ⟨s, ⟨hs, ht⟩, .inr ⟨rfl, e⟩⟩⟩
theorem WnL.rch (hl : WnL G all) (he : WnE G ge F) {t : Int} {i j : Nat} (hi : G.g.LvT i) (hj : G.g.LvT j) : Rch (Lnk ge (LvF G t)) i j ↔ Rch (RL all t) (G.g.D i) (G.g.D j) := by
  refine ⟨fun h => (hl.toId he hi h).2, fun h => ?_⟩
  obtain ⟨j', h1, h2, h3⟩ := hl.toIx he h hi rfl
  rw [← he.stl.ids.inj _ _ h1 hj h2]; exact h3
theorem WnL.lvF (hl : WnL G all) (he : WnE G ge F) : ∀ s, G.g.Lv s ↔ LvF G MINT s := fun s => ⟨fun h => ⟨h, Int.le_of_lt (hl.times he h)⟩, fun h => h.1⟩
theorem WnL.lnk (hl : WnL G all) (he : WnE G ge F) {i j : Nat} : Rch (Lnk ge G.g.Lv) i j ↔ Rch (Lnk ge (LvF G MINT)) i j :=
  ⟨fun h => h.mono (Lnk.mono fun s k => (hl.lvF he s).1 k), fun h => h.mono (Lnk.mono fun s k => k.1)⟩
theorem WnL.conn (hl : WnL G all) (he : WnE G ge F) {i j : Nat} (hi : G.g.LvT i) (hj : G.g.LvT j) : Rch (Lnk ge G.g.Lv) i j ↔ G.g.D j ∈ rchL all (G.g.D i) MINT := by
  rw [hl.lnk he, hl.rch he hi hj, mem_rchL]
theorem WnL.size (hl : WnL G all) (he : WnE G ge F) {i : Nat} (hi : G.g.LvT i) : cntP (fun x => Rch (Lnk ge G.g.Lv) i x) G.f.V = (rchL all (G.g.D i) MINT).length :=
  cnt_names (D := G.g.D) (nodup_rchL _ _ _) (fun x y _ _ hx hy e => by
    have h1 := (hl.toId he hi ((hl.lnk he).1 hx)).1
    have h2 := (hl.toId he hi ((hl.lnk he).1 hy)).1
    exact he.stl.ids.inj x y h1 h2 e) fun y => by
    rw [mem_rchL]
    constructor
    · intro h
      obtain ⟨j, h1, h2, h3⟩ := hl.toIx he h hi rfl
      exact ⟨j, he.lt h1, (hl.lnk he).2 h3, h2⟩
    · rintro ⟨j, _, h2, rfl⟩
      exact (hl.toId he hi ((hl.lnk he).1 h2)).2
theorem WnL.chk (hl : WnL G all) (he : WnE G ge F) (r : Rcd) (hn : r.u ≠ r.v) : stChk G.g r.u r.v = chkL G.E G.V all r := by
  rw [hl.lvr.chk he.stl r hn, he.gE, he.gV]
theorem WnL.best (hl : WnL G all) (he : WnE G ge F) {i j : Nat} (hi : G.g.LvT i) (hj : G.g.LvT j) {ex : Int} (hm : ∃ m, G.g.Lv m ∧ ex = (ge m).exp) (h1 : Rch (Lnk ge fun s => G.g.Lv s ∧ ex ≤ (ge s).exp) i j) (h2 : ¬ Rch (Lnk ge fun s => G.g.Lv s ∧ ex < (ge s).exp) i j) :
    ex = bestL all (G.g.D i) (G.g.D j) + G.W := by
  obtain ⟨m, hm, rfl⟩ := hm
  have ee : ∀ s, G.g.Lv s → (ge s).exp = (G.g.R s).t + G.W := fun s hs => by rw [(he.ge s hs).1, (he.ex s hs).1]
  rw [ee m hm] at h1 h2 ⊢
  have hb : bestL all (G.g.D i) (G.g.D j) = (G.g.R m).t := by
    refine bst_fold all MINT (fun r hr hv => ?_) (Int.le_of_lt (hl.times he hm)) (.inr ⟨_, hl.mem.2 ⟨m, hm, rfl⟩, rfl, ?_⟩)
    · refine Classical.byContradiction fun c => ?_
      rw [mem_rchL, ← hl.rch he hi hj] at hv
      refine h2 (hv.mono (Lnk.mono fun s k => ⟨k.1, ?_⟩))
      rw [ee s k.1]
      have := k.2
      omega
    · rw [mem_rchL, ← hl.rch he hi hj]
      refine h1.mono (Lnk.mono fun s k => ⟨k.1, ?_⟩)
      have h := k.2
      rw [ee s k.1] at h
      show (G.g.R m).t ≤ _
      omega
  rw [hb]
end
end Go.Proofs.YtlooaipipmiijaaGreat

namespace Go.Proofs.YtlooaipipmiijaaGreat
set_option linter.unusedVariables false
set_option linter.unusedSimpArgs false
open Go.RowKit
theorem due_key {G0 : WnG} {all : List Rcd} {ge0 : Nat → GE} {F0 : Nat → Prop} {tt : Int} (h0 : WnL G0 all) (he0 : WnE G0 ge0 F0) (hs : Sorted G0.Q) {L : Nat → Prop} (hL : ∀ s, L s ↔ G0.g.Lv s ∧ ∀ i, i < dueN G0.Q tt → (ent G0.Q i).1 ≠ (s : Int)) : ∀ s, L s ↔ G0.g.Lv s ∧ tt < (G0.g.R s).ex := by
  obtain ⟨hf1, hf2⟩ := due_filter hs tt
  have hn : dueN G0.Q tt = (G0.Q.takeWhile (isDue tt)).length := rfl
  have htake : G0.Q.take (dueN G0.Q tt) = G0.Q.filter (isDue tt) := by
    rw [← hf1, hn]
    exact (List.prefix_iff_eq_take.1 (List.takeWhile_prefix _)).symm
  intro s
  rw [hL s]
  refine and_congr_right fun hs0 => ?_
  have hent := (he0.ent (i := (s : Int)) (k := (G0.g.R s).ex)).2 ⟨s, rfl, hs0, rfl⟩
  rw [← h0.q] at hent
  constructor
  · intro hno
    refine Classical.byContradiction fun c => ?_
    have hd : isDue tt ((s : Int), (G0.g.R s).ex) = true := by unfold isDue; exact decide_eq_true (by show (G0.g.R s).ex ≤ tt; omega)
    have hm : ((s : Int), (G0.g.R s).ex) ∈ G0.Q.take (dueN G0.Q tt) := by rw [htake]; exact List.mem_filter.2 ⟨hent, hd⟩
    obtain ⟨i, hi, hie⟩ := List.getElem_of_mem hm
    rw [List.length_take] at hi
    refine hno i (by omega) ?_
    rw [ent_eq (by omega)]
    rw [List.getElem_take] at hie
    rw [hie]
  · intro hlt i hi hie
    have hil : i < G0.Q.length := by have := dueN_le G0.Q tt; omega
    have hm : ent G0.Q i ∈ G0.Q.take (dueN G0.Q tt) := by
      rw [ent_eq hil]
      exact List.mem_take_iff_getElem.2 ⟨i, by omega, rfl⟩
    rw [htake, List.mem_filter] at hm
    obtain ⟨m1, m2⟩ := hm
    have m3 : ((ent G0.Q i).1, (ent G0.Q i).2) ∈ G0.f.Q := by rw [← h0.q]; exact m1
    obtain ⟨s', k1, k2, k3⟩ := he0.ent.1 m3
    have : s' = s := by omega
    subst this
    unfold isDue at m2
    have := of_decide_eq_true m2
    omega
structure RmP (G0 : WnG) (k : Nat) (g : SG) : Prop where
  stl : StL g
  V : g.V = G0.g.V
  E : g.E = G0.g.E
  Lv : ∀ s, g.Lv s ↔ G0.g.Lv s ∧ ∀ i, i < k → (ent G0.Q i).1 ≠ (s : Int)
  R : ∀ s, g.Lv s → g.R s = G0.g.R s
section
variable {G0 : WnG} {all : List Rcd} {ge : Nat → GE} {F : Nat → Prop} {k : Nat} {g : SG}
theorem RmP.next (h0 : WnL G0 all) (he : WnE G0 ge F) (hn : (G0.Q.map (·.1)).Nodup) (h : RmP G0 k g) (hk : k < G0.Q.length) : ∃ s : Nat, (ent G0.Q k).1 = (s : Int) ∧ g.Lv s := by
  have hm : ((ent G0.Q k).1, (ent G0.Q k).2) ∈ G0.f.Q := by rw [← h0.q, ent_eq hk]; exact List.getElem_mem hk
  obtain ⟨s, h1, h2, h3⟩ := he.ent.1 hm
  refine ⟨s, h1, (h.Lv s).2 ⟨h2, fun i hi e => ?_⟩⟩
  have hlen : (G0.Q.map (·.1)).length = G0.Q.length := List.length_map _
  have e' : (G0.Q.map (·.1))[i]'(by omega) = (G0.Q.map (·.1))[k]'(by omega) := by
    rw [List.getElem_map, List.getElem_map, ← ent_eq (by omega), ← ent_eq hk, e, h1]
  have := (List.getElem_inj hn).1 e'
  omega
theorem RmP.step (h : RmP G0 k g) {s : Nat} (hs : (ent G0.Q k).1 = (s : Int)) {g' : SG} (h1 : StL g') (h2 : g'.V = g.V) (h3 : g'.E = g.E) (h4 : g'.Lv = (fun x => g.Lv x ∧ x ≠ s)) (h5 : ∀ t, t ≠ s → g'.R t = g.R t) : RmP G0 (k + 1) g' := by
  refine ⟨h1, h2.trans h.V, h3.trans h.E, fun t => ?_, fun t ht => ?_⟩
  · rw [h4]
    show g.Lv t ∧ t ≠ s ↔ _
    rw [h.Lv t]
    constructor
    · rintro ⟨⟨a1, a2⟩, a3⟩
      refine ⟨a1, fun i hi => ?_⟩
      by_cases c : i = k
      · rw [c, hs]; omega
      · exact a2 i (by omega)
    · rintro ⟨a1, a2⟩
      refine ⟨⟨a1, fun i hi => a2 i (by omega)⟩, ?_⟩
      have := a2 k (by omega)
      rw [hs] at this
      omega
  · rw [h4] at ht
    rw [h5 t ht.2]; exact h.R t ht.1
theorem RmP.done {tt : Int} (h0 : WnL G0 all) (he : WnE G0 ge F) (hs : Sorted G0.Q) (h : RmP G0 (dueN G0.Q tt) g) (r : Rcd) (hr : r.u ≠ r.v) : stChk g r.u r.v = chkL G0.E G0.V (all.filter fun q => decide (tt < q.t + G0.W)) r := by
  have key := due_key h0 he hs h.Lv
  have hv : LvR g (all.filter fun q => decide (tt < q.t + G0.W)) := by
    obtain ⟨ss, s1, s2, s3⟩ := h0.all
    refine ⟨ss.filter (fun s => decide (tt < (G0.g.R s).ex)), s1.filter _, fun s => ?_, ?_⟩
    · rw [List.mem_filter, s2, decide_eq_true_eq, key s]
    · rw [s3, List.filter_map]
      have e1 : ss.filter ((fun r => decide (tt < r.t + G0.W)) ∘ fun s => (G0.g.R s).rcd) = ss.filter (fun s => decide (tt < (G0.g.R s).ex)) := by
        refine List.filter_congr fun s hs' => ?_
        show decide (tt < (G0.g.R s).t + G0.W) = _
        rw [(he.ex s ((s2 s).1 hs')).1]
      rw [e1]
      refine List.map_congr_left fun s hs' => ?_
      rw [List.mem_filter, s2, decide_eq_true_eq] at hs'
      rw [h.R s ((key s).2 hs')]
  rw [hv.chk h.stl r hr, h.V, h.E, he.gE, he.gV]
theorem none_due {tt : Int} (h0 : WnL G0 all) (he : WnE G0 ge F) (hs : Sorted G0.Q) (h : G0.Q = [] ∨ ∃ x T, G0.Q = x :: T ∧ tt < x.2) : (all.filter fun q => decide (tt < q.t + G0.W)) = all := by
  refine List.filter_eq_self.2 fun r hr => decide_eq_true ?_
  obtain ⟨s, hs1, rfl⟩ := h0.mem.1 hr
  have hent := (he.ent (i := (s : Int)) (k := (G0.g.R s).ex)).2 ⟨s, rfl, hs1, rfl⟩
  rw [← h0.q] at hent
  have hx := (he.ex s hs1).1
  show tt < (G0.g.R s).t + G0.W
  rw [← hx]
  rcases h with h | ⟨x, T, h, hlt⟩
  · rw [h] at hent; cases hent
  · rw [h] at hent hs
    rcases List.mem_cons.1 hent with c | c
    · rw [← c] at hlt; exact hlt
    · have := (List.pairwise_cons.1 hs).1 _ c
      unfold elt at this
      have h2 : x.2 ≤ (G0.g.R s).ex := by
        rcases this with k | k
        · exact Int.le_of_lt k
        · exact Int.le_of_eq k.1
      omega
end
structure RmI (w1 : World) (sp : Nat) (G0 : WnG) (n k : Nat) (v : Value) (g : SG) (W : World) : Prop where
  st : StM W sp g
  ff : ∀ x, g.foot sp x → w1.heap.size ≤ x
  bel : Below w1.heap.size w1 W
  row : W.ownsRow 0 3 1 v n ((G0.Q.take n).map fun e => .int .i64 e.1)
  nf : ∀ x, v.ownBlock = some x → ¬ g.foot sp x
  pl : RmP G0 k g
theorem RmI.step {w1 W W1 : World} {sp n k : Nat} {G0 : WnG} {v : Value} {g g' : SG} (h : RmI w1 sp G0 n k v g W) (k1 : StS sp g W g' W1) (hp : RmP G0 (k + 1) g') : RmI w1 sp G0 n (k + 1) v g' W1 := by
  refine ⟨k1.mem, fun x hx => ?_, h.bel.trans (k1.mod.below h.bel.size h.ff), owns_modL h.row k1.mod h.nf, fun x hx hf => ?_, hp⟩
  · rcases k1.ft x hx with a | a
    · exact h.ff x a
    · have := h.bel.size; omega
  · have := (h.row.lt x hx).2
    rcases k1.ft x hf with a | a
    · exact h.nf x hx a
    · omega
end Go.Proofs.YtlooaipipmiijaaGreat
