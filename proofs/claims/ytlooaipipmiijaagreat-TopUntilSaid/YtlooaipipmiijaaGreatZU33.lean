/- Several texts in one: FoE, FoF, FoH. -/
import Derived.Test.YtlooaipipmiijaaGreatZU32
import Derived.BigQuiet
namespace Go.Proofs.YtlooaipipmiijaaGreat
set_option linter.unusedVariables false
set_option linter.unusedSimpArgs false
open Go.RowKit
structure FoAd (w : World) (b : Nat) (f : FoG) (g : Nat → GE) (L : Nat → Prop) (s x y : Nat) (ex : Int) (e : Ending) (w' : World) : Prop where
  val : e = .returned (.int .i64 0)
  out : ∃ f' F', FoS b f w f' w' ∧ FoP f' (upF g s ⟨x, y, ex⟩) (fun t => L t ∨ t = s) F' ∧ f'.V = f.V ∧ f'.S = f.S ∧ f'.Q = ins ((s : Int), ex) f.Q
theorem FoS.drew {b : Nat} {f f1 : FoG} {w w1 : World} (h : FoS b f w f1 w1) : FoS b f w f1 w1.drew := h.below ((Below.refl _ _).drew)
theorem fs_keep {b : Nat} {f f1 : FoG} {w w1 : World} (h : FoS b f w f1 w1) : w1.cell? ⟨b, 1, none⟩ = some (.int .i64 (f1.S : Int)) ∧ w1.cell? ⟨b, 2, none⟩ = some (.pointer (some ⟨f1.lp, 0, none⟩)) ∧ FoS b f w f1 w1 := ⟨h.mem.s1, h.mem.s2, h⟩
set_option maxHeartbeats 2000000 in
set_option maxRecDepth 100000 in
theorem fo_add (w : World) (b : Nat) (f : FoG) (g : Nat → GE) (L F : Nat → Prop) (h : FoM w b f) (hp : FoP f g L F) (s x y : Nat) (ex : Int) (hs : s < f.S) (hx : x < f.V) (hy : y < f.V) (hxy : x ≠ y) (hex : ex ≤ 9223372036854775807) (hn : ¬ L s) :
    Calls Tryz.prog 52 #[.pointer (some ⟨b, 0, none⟩), .int .i64 (s : Int), .int .i64 (x : Int), .int .i64 (y : Int), .int .i64 ex] w (FoAd w b f g L s x y ex) := by
  have H := Lib.hid h
  have HP := Lib.hid hp
  have HN := Lib.hid hn
  have hsz := hp.sz
  have HV := Lib.hid (fo_valid b f.mb w h.s4)
  have HA := Lib.hid (fo_has b f.mb f.V x w h.s4 h.s0 hx)
  have HB := Lib.hid (fo_has b f.mb f.V y w h.s4 h.s0 hy)
  have hno : f.fm (s : Int) = none := by rw [hp.fm]; exact fmF_out hn
  have HNO := Lib.hid hno
  have hlk := h.map.look_ok Tryz.underlying3 Tryz.underlying113 (Tryz.zeroEdge w) (i := (s : Int)) (wf_i64K (by omega) (by omega))
  rw [hno] at hlk
  have hlk2 : (Instr.lookup 113 (.map (some f.mb)) (.int .i64 (s : Int)) true).run Tryz.prog w = .ok (.tuple #[.agg #[.int .i64 0, .int .i64 0, .int .i64 0, .bool false], .bool false]) w := hlk
  have c1 := h.s1
  have c4 := h.s4
  have t1 : decide ((s : Int) < 0) = false := decide_eq_false (by omega)
  have t2 : decide ((f.S : Int) ≤ (s : Int)) = false := decide_eq_false (by omega)
  have t3 : ((x : Int) == (y : Int)) = false := by rw [beq_eq_false_iff_ne]; omega
  have t2' : decide (f.S ≤ s) = false := decide_eq_false (by omega)
  have t3' : decide (x = y) = false := decide_eq_false hxy
  have HX := Lib.hid hxy
  have HEX := Lib.hid hex
  clear h hp hn hlk hno hex
  go_enter Tryz.func52, Tryz.ntmps52
  go_upto_region 10 with (first | (go_at_call 55; refine HV.out.mono ?_; rintro e w' ⟨rfl, rfl⟩) | (go_at_call 63; (first | (with_reducible refine HA.out.mono ?_) | (with_reducible refine HB.out.mono ?_)); rintro e w' ⟨rfl, rfl⟩))
  have HI1 := Lib.hid ((FoS.refl H.out).below (bel_alloc w (.cells #[.int .i64 0, .int .i64 0, .int .i64 0, .bool false] 117)))
  generalize w.alloc (.cells #[.int .i64 0, .int .i64 0, .int .i64 0, .bool false] 117) = w1 at *
  clear hlk2 c1 c4 t1 t2 t3 t2' t3' HV HA HB
  have hbz : ∀ W, (Instr.build 117 #[(0, .int .i64 (x : Int)), (1, .int .i64 (y : Int)), (2, .int .i64 ex)]).run Tryz.prog W = .ok (.agg #[.int .i64 (x : Int), .int .i64 (y : Int), .int .i64 ex, .bool false]) W := fun W => by kernel_rfl
  have c3 := HI1.out.mem.s3
  have HPU := Lib.hid (push_ok w1 f.qb f.S f.Q f.qg HI1.out.mem.que s ex hs (fun e he => by
    obtain ⟨t, k1, k2, k3⟩ := (HP.out.que e.1 e.2).1 he
    rw [k1]
    exact fun k => HN.out (by rw [show s = t by omega]; exact k2)))
  go_upto_region 11 with (go_at_call 94; refine HPU.out.mono ?_; rintro e w2 ⟨rfl, g2, ho, hmd, hft⟩; have HI2 := Lib.hid (HI1.out.trans (HI1.out.mem.sQue hmd ho hft)); clear ho hmd hft)
  clear c3 HPU HI1
  have c4 := HI2.out.mem.s4
  have hcb := HP.out.cb
  go_upto_region 12 with (at_mapUpdate; refine wpList_storeK rfl _ _ _ rfl Tryz.underlying3 Tryz.underlying113 rfl HI2.out.mem.map hcb (i := (s : Int)) (wf_i64K (by omega) (by omega)) (c' := f.c + 1) (by show (if (f.fm (s : Int)).isSome then _ else _) = _; rw [HNO.out]; rfl) (edV x y ex false) rfl rfl ?_; intro w3 hmk hmd; have HI3 := Lib.hid (HI2.out.trans (HI2.out.mem.sMap hmd hmk)); clear hmk hmd)
  obtain ⟨f3, HI3', HP3, HV3, HS3, HQ3, HG3⟩ : ∃ f3, Hid (FoS b f w f3 w3) ∧ Hid (FoP0 f3 (upF g s ⟨x, y, ex⟩) (fun t => L t ∨ t = s) F) ∧ Hid (f3.V = f.V) ∧ Hid (f3.S = f.S) ∧ Hid (f3.Q = ins ((s : Int), ex) f.Q) ∧ Hid (Span (upF g s ⟨x, y, ex⟩) L F) :=
    ⟨_, HI3, HP.out.toFoP0.put hs hx hy HX.out HEX.out HN.out g2 _, rfl, rfl, rfl, span_up HP.out.span HN.out (fun k => HN.out (HP.out.FL s k))⟩
  have HGS : Hid (upF g s ⟨x, y, ex⟩ s = ⟨x, y, ex⟩) := uF_same _ _ _
  have HGN : Hid (∀ t, t ≠ s → upF g s ⟨x, y, ex⟩ t = g t) := fun t ht => uF_ne _ _ ht
  have HNF : Hid (¬ F s) := fun k => HN.out (HP.out.FL s k)
  clear HI3 c4 hcb hbz HI2
  rw [← HV3.out] at hx hy
  rw [← HS3.out] at hs
  have hsz3 : f3.S ≤ 16384 ∧ f3.V ≤ 4096 := by rw [HV3.out, HS3.out]; exact hsz
  generalize hGG : upF g s ⟨x, y, ex⟩ = G at *
  have HGG := Lib.hid hGG
  clear hGG hsz
  have hwx : IntKind.i64.wrap ((f3.S : Int) + (x : Int)) = ((f3.S + x : Nat) : Int) := by rw [IntWalk.i64_in _ (by omega)]; omega
  have hwy : IntKind.i64.wrap ((f3.S : Int) + (y : Int)) = ((f3.S + y : Nat) : Int) := by rw [IntWalk.i64_in _ (by omega)]; omega
  go_frame
  go_cut [13, 14] (fun s13 s14 wx => FoS b f w f3 wx ∧ ((Rch (Lnk G F) x y ∧ ∃ m : Nat, s13 = .int .i64 (m : Int) ∧ s14 = .bool true ∧ F m ∧ Rch (Lnk G fun t => F t ∧ Nb G t m) x y ∧ ¬ Rch (Lnk G fun t => F t ∧ t ≠ m) x y) ∨ (¬ Rch (Lnk G F) x y ∧ s13 = .int .i64 0 ∧ s14 = .bool false)))
  case first =>
    by_cases hc : Rch (Lnk G F) x y
    · have HC := Lib.hid hc
      clear hc
      go_region_held3 (fun w' => w'.cell? ⟨b, 1, none⟩ = some (.int .i64 (f3.S : Int)) ∧ w'.cell? ⟨b, 2, none⟩ = some (.pointer (some ⟨f3.lp, 0, none⟩)) ∧ FoS b f w f3 w')
        (((try go_split_ands); refine fs_keep ?_; first | assumption | exact HI3'.out | exact (FoS.drew HI3'.out) | exact FoS.drew (by assumption)))
        ((go_at_call 64; (try go_split_ands); refine (fo_min _ b f3 G (fun t => L t ∨ t = s) F (FoS.mem (show FoS b f w f3 _ by assumption)) HP3.out hx hy hxy).mono ?_; rintro e w5 ⟨hyes, hno, hst⟩; obtain ⟨m, rfl, hfm, hr1, hr2⟩ := hyes HC.out; have hI5 := FoS.trans (by assumption) hst; clear hyes hno hst))
      go_wp2_with fail
      go_meet
      exact ⟨by assumption, .inl ⟨HC.out, m, rfl, rfl, hfm, hr1, hr2⟩⟩
    · have HC := Lib.hid hc
      clear hc
      go_region_held3 (fun w' => w'.cell? ⟨b, 1, none⟩ = some (.int .i64 (f3.S : Int)) ∧ w'.cell? ⟨b, 2, none⟩ = some (.pointer (some ⟨f3.lp, 0, none⟩)) ∧ FoS b f w f3 w')
        (((try go_split_ands); refine fs_keep ?_; first | assumption | exact HI3'.out | exact (FoS.drew HI3'.out) | exact FoS.drew (by assumption)))
        ((go_at_call 64; (try go_split_ands); refine (fo_min _ b f3 G (fun t => L t ∨ t = s) F (FoS.mem (show FoS b f w f3 _ by assumption)) HP3.out hx hy hxy).mono ?_; rintro e w5 ⟨hyes, hno, hst⟩; obtain rfl := hno HC.out; have hI5 := FoS.trans (by assumption) hst; clear hyes hno hst))
      go_wp2_with fail
      go_meet
      exact ⟨by assumption, .inr ⟨HC.out, rfl, rfl⟩⟩
  case rest =>
    obtain ⟨hst, ⟨hc, m, rfl, rfl, hfm, hr1, hr2⟩ | ⟨hc, rfl, rfl⟩⟩ := hcut
    · have HI5 := Lib.hid hst
      have HFM := Lib.hid hfm
      have HR1 := Lib.hid hr1
      have HR2 := Lib.hid hr2
      have HMS : Hid (m ≠ s) := fun k => HNF.out (by rw [← k]; exact hfm)
      have hLm := HP.out.FL m hfm
      have hms := (HP.out.ls m hLm).1
      have hmm : f3.fm (m : Int) = some (edV (g m).a (g m).b (g m).exp true) := by rw [HP3.out.fm, fmF_yes (.inl hLm) hfm, HGN.out m HMS.out]
      have HGM := Lib.hid (HGN.out m HMS.out)
      have hlk := HI5.out.mem.map.look Tryz.underlying3 Tryz.underlying113 (Tryz.zeroEdge wc) (i := (m : Int)) (wf_i64K (by omega) (by have := HS3.out; omega))
      rw [hmm] at hlk
      have HNB : Hid ((ex < (g m).exp ∨ ex = (g m).exp ∧ s < m) → Nb G m s) := by
        show _ → _
        intro k
        unfold Nb
        rw [HGM.out, HGS.out]
        show ex < (g m).exp ∨ ex = (g m).exp ∧ s ≤ m
        omega
      have HNS : Hid (((g m).exp < ex ∨ ex = (g m).exp ∧ m < s) → Nb G s m) := by
        show _ → _
        intro k
        unfold Nb
        rw [HGM.out, HGS.out]
        show (g m).exp < ex ∨ (g m).exp = ex ∧ m ≤ s
        omega
      generalize hga : (g m).a = ga at *
      generalize hgb : (g m).b = gb at *
      generalize hgx : (g m).exp = gx at *
      have hlk2 : (Instr.lookup 113 (.map (some f3.mb)) (.int .i64 (m : Int)) false).run Tryz.prog wc = .ok (.agg #[.int .i64 (ga : Int), .int .i64 (gb : Int), .int .i64 gx, .bool true]) wc := hlk
      have c4 := HI5.out.mem.s4
      have HBX : Hid (Below wc.heap.size wc (wc.alloc (.cells #[.int .i64 (ga : Int), .int .i64 (gb : Int), .int .i64 gx, .bool true] 117))) := bel_alloc wc _
      clear hst hfm hr1 hr2 hc hlk hmm hLm hga hgb hgx
      go_upto_region 15 with fail
      clear hlk2 c4
      have z2 := (Blk.new wc 117 [.int .i64 (ga : Int), .int .i64 (gb : Int), .int .i64 gx, .bool true]).cell (i := 2) rfl
      simp only [List.toArray] at z2
      generalize wc.alloc (.cells #[.int .i64 (ga : Int), .int .i64 (gb : Int), .int .i64 gx, .bool true] 117) = w6 at *
      rcases Int.lt_trichotomy ex gx with hA | hA | hA
      · have ta : decide (ex < gx) = true := decide_eq_true hA
        have HAA := Lib.hid hA
        go_wp2_with fail
        go_ret
        refine ⟨rfl, f3, F, HI5.out.below HBX.out, ?_, HV3.out, HS3.out, HQ3.out⟩
        rw [HGG.out]
        exact ⟨HP3.out, HG3.out.skip (HNB.out (.inl HAA.out)) (by rw [HGS.out]; exact HR1.out)⟩
      · subst hA
        by_cases hB : s < m
        · have ta : decide (ex < ex) = false := decide_eq_false (by omega)
          have tb : (ex == ex) = true := beq_self_eq_true _
          have tc : decide ((s : Int) < (m : Int)) = true := decide_eq_true (by omega)
          have tc' : decide (s < m) = true := decide_eq_true hB
          have HBB := Lib.hid hB
          go_wp2_with fail
          go_ret
          refine ⟨rfl, f3, F, HI5.out.below HBX.out, ?_, HV3.out, HS3.out, HQ3.out⟩
          rw [HGG.out]
          exact ⟨HP3.out, HG3.out.skip (HNB.out (by first | exact .inr ⟨rfl, HBB.out⟩ | exact .inr ⟨trivial, HBB.out⟩)) (by rw [HGS.out]; exact HR1.out)⟩
        · have ta : decide (ex < ex) = false := decide_eq_false (by omega)
          have tb : (ex == ex) = true := beq_self_eq_true _
          have tc : decide ((s : Int) < (m : Int)) = false := decide_eq_false (by omega)
          have tc' : decide (s < m) = false := decide_eq_false hB
          have HBB : Hid (m < s) := by have := HMS.out; show m < s; omega
          have HLO := Lib.hid (fo_loosenP _ b f3 G (fun t => L t ∨ t = s) F (HI5.out.below HBX.out).mem HP3.out HFM.out)
          go_upto_region 18 with (go_at_call 57; refine HLO.out.mono ?_; rintro e w7 ⟨rfl, f7, h1, h2, h3, h4, h5, _⟩; have HI7 := Lib.hid ((HI5.out.below HBX.out).trans h1); have HP7 := Lib.hid h2; have HE7 := Lib.hid (And.intro h3 (And.intro h4 h5)); clear h1 h2 h3 h4 h5)
          have HFA := Lib.hid (fo_fastenP w7 b f7 G (fun t => L t ∨ t = s) (fun t => F t ∧ t ≠ m) HI7.out.mem HP7.out (.inr rfl) (fun k => HNF.out k.1) (by rw [HGS.out]; exact HR2.out))
          go_wp2_with (go_at_call 95; refine HFA.out.mono ?_; rintro e w9 ⟨rfl, f9, h1, h2, h3, h4, h5, _⟩; have HI9 := Lib.hid (HI7.out.trans h1); have HP9 := Lib.hid h2; have HE9 := Lib.hid (And.intro h3 (And.intro h4 h5)); clear h1 h2 h3 h4 h5)
          go_ret
          obtain ⟨k1, k2, k3⟩ := HE9.out
          obtain ⟨l1, l2, l3⟩ := HE7.out
          refine ⟨rfl, f9, fun t => (F t ∧ t ≠ m) ∨ t = s, HI9.out, ?_, (k1.trans l1).trans HV3.out, (k2.trans l2).trans HS3.out, (k3.trans l3).trans HQ3.out⟩
          rw [HGG.out]
          exact ⟨HP9.out, (HG3.out.swap (HNS.out (by first | exact .inr ⟨rfl, HBB.out⟩ | exact .inr ⟨trivial, HBB.out⟩)) HMS.out.symm (by rw [HGS.out]; exact HR1.out) (by rw [HGS.out]; exact HR2.out)).1⟩
      · have ta : decide (ex < gx) = false := decide_eq_false (by omega)
        have tb : (gx == ex) = false := by rw [beq_eq_false_iff_ne]; omega
        have tb' : decide (gx = ex) = false := decide_eq_false (by omega)
        have HAA := Lib.hid hA
        have HLO := Lib.hid (fo_loosenP _ b f3 G (fun t => L t ∨ t = s) F (HI5.out.below HBX.out).mem HP3.out HFM.out)
        go_upto_region 18 with (go_at_call 57; refine HLO.out.mono ?_; rintro e w7 ⟨rfl, f7, h1, h2, h3, h4, h5, _⟩; have HI7 := Lib.hid ((HI5.out.below HBX.out).trans h1); have HP7 := Lib.hid h2; have HE7 := Lib.hid (And.intro h3 (And.intro h4 h5)); clear h1 h2 h3 h4 h5)
        have HFA := Lib.hid (fo_fastenP w7 b f7 G (fun t => L t ∨ t = s) (fun t => F t ∧ t ≠ m) HI7.out.mem HP7.out (.inr rfl) (fun k => HNF.out k.1) (by rw [HGS.out]; exact HR2.out))
        go_wp2_with (go_at_call 95; refine HFA.out.mono ?_; rintro e w9 ⟨rfl, f9, h1, h2, h3, h4, h5, _⟩; have HI9 := Lib.hid (HI7.out.trans h1); have HP9 := Lib.hid h2; have HE9 := Lib.hid (And.intro h3 (And.intro h4 h5)); clear h1 h2 h3 h4 h5)
        go_ret
        obtain ⟨k1, k2, k3⟩ := HE9.out
        obtain ⟨l1, l2, l3⟩ := HE7.out
        refine ⟨rfl, f9, fun t => (F t ∧ t ≠ m) ∨ t = s, HI9.out, ?_, (k1.trans l1).trans HV3.out, (k2.trans l2).trans HS3.out, (k3.trans l3).trans HQ3.out⟩
        rw [HGG.out]
        exact ⟨HP9.out, (HG3.out.swap (HNS.out (.inl HAA.out)) HMS.out.symm (by rw [HGS.out]; exact HR1.out) (by rw [HGS.out]; exact HR2.out)).1⟩
    · have HI5 := Lib.hid hst
      have HC := Lib.hid hc
      clear hst hc
      go_upto_region 18 with fail
      have HFA := Lib.hid (fo_fastenP wc b f3 G (fun t => L t ∨ t = s) F HI5.out.mem HP3.out (.inr rfl) HNF.out (by rw [HGS.out]; exact HC.out))
      go_wp2_with (go_at_call 95; refine HFA.out.mono ?_; rintro e w9 ⟨rfl, f9, h1, h2, h3, h4, h5, _⟩; have HI9 := Lib.hid (HI5.out.trans h1); have HP9 := Lib.hid h2; have HE9 := Lib.hid (And.intro h3 (And.intro h4 h5)); clear h1 h2 h3 h4 h5)
      go_ret
      obtain ⟨k1, k2, k3⟩ := HE9.out
      refine ⟨rfl, f9, fun t => F t ∨ t = s, HI9.out, ?_, k1.trans HV3.out, k2.trans HS3.out, k3.trans HQ3.out⟩
      rw [HGG.out]
      exact ⟨HP9.out, HG3.out.add s⟩
end Go.Proofs.YtlooaipipmiijaaGreat

namespace Go.Proofs.YtlooaipipmiijaaGreat
set_option linter.unusedVariables false
set_option linter.unusedSimpArgs false
open Go.RowKit
structure FoEx (w : World) (b : Nat) (f : FoG) (g : Nat → GE) (L : Nat → Prop) (s : Nat) (Q' : List Ent) (e : Ending) (w' : World) : Prop where
  val : e = .returned (.tuple #[.int .i64 (s : Int), .bool true])
  out : ∃ f' F', FoS b f w f' w' ∧ FoP f' g (fun t => L t ∧ t ≠ s) F' ∧ f'.V = f.V ∧ f'.S = f.S ∧ f'.Q = Q'
structure FlB (T : TypeId) (w : World) (b : Nat) (f : FoG) (z : Nat) (cs : List Value) (fk : FoG) (W : World) : Prop where
  st : FoS b f w fk W
  bz : Blk W z T cs
  nz : ¬ fk.foot b z
  zs : w.heap.size ≤ z
theorem FlB.start {T : TypeId} {w W : World} {b : Nat} {f fk : FoG} (h : FoS b f w fk W) (cs : List Value) : FlB T w b f W.heap.size cs fk (W.alloc (.cells cs.toArray T)) :=
  ⟨h.below (bel_alloc W _), Blk.new W _ cs, fun e => by have := h.mem.foot_lt _ e; omega, h.mod.size⟩
theorem FlB.below {T : TypeId} {w W W1 : World} {b z : Nat} {f fk : FoG} {cs : List Value} (h : FlB T w b f z cs fk W) (hb : Below W.heap.size W W1) : FlB T w b f z cs fk W1 := ⟨h.st.below hb, h.bz.below hb h.bz.lt, h.nz, h.zs⟩
theorem FlB.step {T : TypeId} {w W W1 : World} {b z : Nat} {f fk f2 : FoG} {cs : List Value} (h : FlB T w b f z cs fk W) (k : FoS b fk W f2 W1) : FlB T w b f z cs f2 W1 :=
  ⟨h.st.trans k, (k.box h.bz h.nz).1, (k.box h.bz h.nz).2, h.zs⟩
set_option maxHeartbeats 2000000 in
set_option maxRecDepth 100000 in
theorem fo_expire (w : World) (b : Nat) (f : FoG) (g : Nat → GE) (L F : Nat → Prop) (h : FoM w b f) (hp : FoP f g L F) (s : Nat) (k : Int) (Q' : List Ent) (hQ : f.Q = ((s : Int), k) :: Q') :
    Calls Tryz.prog 24 #[.pointer (some ⟨b, 0, none⟩)] w (FoEx w b f g L s Q') := by
  have H := Lib.hid h
  have HP := Lib.hid hp
  have HQ := Lib.hid hQ
  have hst := h.que.sorted
  obtain ⟨hLs, hke, hnb⟩ := hp.toFoP0.first hQ hst
  have HST := Lib.hid hst
  have HLS := Lib.hid hLs
  have HNB := Lib.hid hnb
  obtain ⟨h1, h2, h3, h4, h5⟩ := hp.ls s hLs
  have HL1 : Hid (s < f.S ∧ (g s).a < f.V ∧ (g s).b < f.V ∧ (g s).a ≠ (g s).b) := ⟨h1, h2, h3, h4⟩
  have HSZ := Lib.hid hp.sz
  have hs16 : s < 16384 := by have := hp.sz; omega
  have HV := Lib.hid (fo_valid b f.mb w h.s4)
  have c3 := h.s3
  have HPO := Lib.hid (pop_some w f.qb f.S ((s : Int), k) Q' f.qg (by have := h.que; rwa [hQ] at this))
  clear h hp hQ hst hLs hke hnb h1 h2 h3 h4 h5
  go_enter Tryz.func24, Tryz.ntmps24
  go_upto_region 4 with (first | (go_at_call 55; refine HV.out.mono ?_; rintro e w' ⟨rfl, rfl⟩) | (go_at_call 56; refine HPO.out.mono ?_; rintro e w1 ⟨rfl, qg, ho, hmd, hft⟩; have HI1 := Lib.hid (H.out.sQue hmd ho hft); clear ho hmd hft))
  have HI2 : Hid (FlB 99 w b f w1.heap.size [.int .i64 (s : Int), .int .i64 k] _ (w1.alloc (.cells #[.int .i64 (s : Int), .int .i64 k] 99))) := FlB.start HI1.out _
  generalize hcol : reco w f.col 2 = col at *
  clear HI1 HPO HV c3 hcol
  generalize w1.alloc (.cells #[.int .i64 (s : Int), .int .i64 k] 99) = w2 at *
  generalize w1.heap.size = z at *
  by_cases hF : F s
  · have HF := Lib.hid hF
    have hm : f.fm (s : Int) = some (edV (g s).a (g s).b (g s).exp true) := by rw [HP.out.fm]; exact fmF_yes HLS.out hF
    have HM := Lib.hid hm
    go_upto_region 6 with fail
    refine region_tailD 7 (by kernel_rfl) (by kernel_rfl) ?_
    intro w3 hw3
    have HI3 := Lib.hid (HI2.out.below hw3.self)
    clear hw3 HI2
    have c4 := HI3.out.st.mem.s4
    have z0 := HI3.out.bz.cell (i := 0) rfl
    have hlk := HI3.out.st.mem.map.look Tryz.underlying3 Tryz.underlying113 (Tryz.zeroEdge w3) (i := (s : Int)) (wf_i64K (by omega) (by omega))
    replace hlk : (Instr.lookup 113 (.map (some f.mb)) (.int .i64 (s : Int)) false).run Tryz.prog w3 = .ok ((f.fm (s : Int)).getD (.agg #[.int .i64 0, .int .i64 0, .int .i64 0, .bool false])) w3 := hlk
    rw [hm] at hlk
    replace hlk : (Instr.lookup 113 (.map (some f.mb)) (.int .i64 (s : Int)) false).run Tryz.prog w3 = .ok (.agg #[.int .i64 ((g s).a : Int), .int .i64 ((g s).b : Int), .int .i64 (g s).exp, .bool true]) w3 := hlk
    have hfd : (Instr.field 117 (.agg #[.int .i64 ((g s).a : Int), .int .i64 ((g s).b : Int), .int .i64 (g s).exp, .bool true]) 3).run Tryz.prog w3 = .ok (.bool true) w3 := by kernel_rfl
    clear hF hm
    simp only [List.take_succ_cons, List.take_zero, List.drop_succ_cons, List.drop_zero]
    repeat still_step
    refine wpStill_nil ?_
    clear hlk c4
    have HLO : Hid (Calls Tryz.prog 57 #[.pointer (some ⟨b, 0, none⟩), .int .i64 (s : Int)] w3 (FoLo w3 b { f with Q := Q', qg := qg, col := col } s (g s).a (g s).b (g s).exp)) := by
      obtain ⟨h1, h2, h3, h4⟩ := HL1.out
      obtain ⟨e1, e2, _⟩ := ef_del (fun s hs => ⟨(HP.out.ls s (HP.out.FL s hs)).1, (HP.out.ls s (HP.out.FL s hs)).2.2.2.1⟩) HF.out HP.out.eE
      have hz := HSZ.out
      have ht := HP.out.trb
      exact fo_loosen w3 b { f with Q := Q', qg := qg, col := col } HI3.out.st.mem s (g s).a (g s).b (g s).exp h1 h2 h3 h4 HM.out e1 e2 (by show f.S ≤ 65536 ∧ f.V ≤ 65536; omega) HP.out.cb (by show 0 ≤ f.tr ∧ f.tr ≤ 65536; omega)
    go_upto_region 8 with (go_at_call 57; refine HLO.out.mono ?_; rintro e w4 ⟨rfl, ho⟩; have HI4 := Lib.hid (HI3.out.step ho); clear ho)
    clear z0 HLO HI3
    refine region_tailD 6 (by kernel_rfl) (by kernel_rfl) ?_
    intro w5 hw5
    have HI5 := Lib.hid (HI4.out.below hw5.self)
    clear hw5 HI4
    have c4 := HI5.out.st.mem.s4
    have z0 := HI5.out.bz.cell (i := 0) rfl
    simp only [List.take_succ_cons, List.take_zero, List.drop_succ_cons, List.drop_zero]
    repeat still_step
    refine wpStill_nil ?_
    clear c4 z0
    refine wpList_dropK rfl _ _ rfl Tryz.underlying3 Tryz.underlying113 rfl HI5.out.st.mem.map (i := (s : Int)) (wf_i64K (by omega) (by omega)) (c' := f.c - 1) (by show (if ((if (s : Int) = (s : Int) then some (edV (g s).a (g s).b (g s).exp false) else f.fm (s : Int))).isSome = true then _ else _) = _; rw [if_pos rfl]; rfl) rfl ?_
    intro w6 hmk hmd
    have HI6 := Lib.hid (HI5.out.step (HI5.out.st.mem.sMap hmd hmk))
    clear hmk hmd HI5
    have z0 := HI6.out.bz.cell (i := 0) rfl
    go_wp2_with fail
    go_ret2
    refine ⟨rfl, _, fun t => F t ∧ t ≠ s, HI6.out.st, ?_, rfl, rfl, rfl⟩
    have h1 := (HP.out.toFoP0.loosen HF.out).drop HQ.out HST.out (fun k => k.2 rfl) qg col
    exact ⟨h1, HP.out.span.drop HNB.out⟩
  · have HF := Lib.hid hF
    have hm : f.fm (s : Int) = some (edV (g s).a (g s).b (g s).exp false) := by rw [HP.out.fm]; exact fmF_no HLS.out hF
    have HM := Lib.hid hm
    go_upto_region 6 with fail
    refine region_tailD 7 (by kernel_rfl) (by kernel_rfl) ?_
    intro w3 hw3
    have HI3 := Lib.hid (HI2.out.below hw3.self)
    clear hw3 HI2
    have c4 := HI3.out.st.mem.s4
    have z0 := HI3.out.bz.cell (i := 0) rfl
    have hlk := HI3.out.st.mem.map.look Tryz.underlying3 Tryz.underlying113 (Tryz.zeroEdge w3) (i := (s : Int)) (wf_i64K (by omega) (by omega))
    replace hlk : (Instr.lookup 113 (.map (some f.mb)) (.int .i64 (s : Int)) false).run Tryz.prog w3 = .ok ((f.fm (s : Int)).getD (.agg #[.int .i64 0, .int .i64 0, .int .i64 0, .bool false])) w3 := hlk
    rw [hm] at hlk
    replace hlk : (Instr.lookup 113 (.map (some f.mb)) (.int .i64 (s : Int)) false).run Tryz.prog w3 = .ok (.agg #[.int .i64 ((g s).a : Int), .int .i64 ((g s).b : Int), .int .i64 (g s).exp, .bool false]) w3 := hlk
    have hfd : (Instr.field 117 (.agg #[.int .i64 ((g s).a : Int), .int .i64 ((g s).b : Int), .int .i64 (g s).exp, .bool false]) 3).run Tryz.prog w3 = .ok (.bool false) w3 := by kernel_rfl
    clear hF hm
    simp only [List.take_succ_cons, List.take_zero, List.drop_succ_cons, List.drop_zero]
    repeat still_step
    refine wpStill_nil ?_
    clear hlk c4
    go_upto_region 8 with fail
    clear z0
    refine region_tailD 6 (by kernel_rfl) (by kernel_rfl) ?_
    intro w5 hw5
    have HI5 := Lib.hid (HI3.out.below hw5.self)
    clear hw5 HI3
    have c4 := HI5.out.st.mem.s4
    have z0 := HI5.out.bz.cell (i := 0) rfl
    simp only [List.take_succ_cons, List.take_zero, List.drop_succ_cons, List.drop_zero]
    repeat still_step
    refine wpStill_nil ?_
    clear c4 z0
    refine wpList_dropK rfl _ _ rfl Tryz.underlying3 Tryz.underlying113 rfl HI5.out.st.mem.map (i := (s : Int)) (wf_i64K (by omega) (by omega)) (c' := f.c - 1) (by show (if (f.fm (s : Int)).isSome = true then _ else _) = _; rw [HM.out]; rfl) rfl ?_
    intro w6 hmk hmd
    have HI6 := Lib.hid (HI5.out.step (HI5.out.st.mem.sMap hmd hmk))
    clear hmk hmd HI5
    have z0 := HI6.out.bz.cell (i := 0) rfl
    go_wp2_with fail
    go_ret2
    refine ⟨rfl, _, F, HI6.out.st, ?_, rfl, rfl, rfl⟩
    have h1 := HP.out.toFoP0.drop HQ.out HST.out HF.out qg col
    refine ⟨h1, ?_⟩
    have h2 := HP.out.span.drop HNB.out
    have e : (fun t => F t ∧ t ≠ s) = F := funext fun t => propext ⟨fun k => k.1, fun k => ⟨k, fun c => HF.out (c ▸ k)⟩⟩
    rw [e] at h2
    exact h2
end Go.Proofs.YtlooaipipmiijaaGreat

namespace Go.Proofs.YtlooaipipmiijaaGreat
set_option linter.unusedVariables false
set_option linter.unusedSimpArgs false
open Go.RowKit
structure FoCo (w : World) (b : Nat) (f : FoG) (R : Prop) (e : Ending) (w' : World) : Prop where
  val : ∃ c : Bool, e = .returned (.bool c) ∧ (c = true ↔ R)
  st : FoS b f w f w'
theorem fo_lconn (w : World) (b : Nat) (f : FoG) (g : Nat → GE) (L F : Nat → Prop) (h : FoM w b f) (hp : FoP f g L F) {x y : Nat} (hx : x < f.V) (hy : y < f.V) :
    Calls Tryz.prog 73 #[.pointer (some ⟨f.lp, 0, none⟩), .int .i64 ((f.S + x : Nat) : Int), .int .i64 ((f.S + y : Nat) : Int)] w (FoCo w b f (Rch (Lnk g L) x y)) := by
  obtain ⟨N, ed, h1, h2, h3⟩ := hp.toFoP0.fg h
  refine (lc_connected w f.lp f.lg (f.S + f.V) f.E f.key N ed h1 h3 (f.S + x) (f.S + y) (by omega) (by omega)).mono ?_
  rintro e w' ⟨⟨c, rfl, hc⟩, ⟨N', ho1, ho2⟩, hmd⟩
  exact ⟨⟨c, rfl, hc.trans (hp.toFoP0.rch.trans hp.conn)⟩, h.sLct (hmd.mono (fun k _ e => .inl e)) ⟨N', ed, ho1, ho2⟩⟩
theorem fs_keep4 {b : Nat} {f f1 : FoG} {w w1 : World} (h : FoS b f w f1 w1) : w1.cell? ⟨b, 1, none⟩ = some (.int .i64 (f1.S : Int)) ∧ w1.cell? ⟨b, 2, none⟩ = some (.pointer (some ⟨f1.lp, 0, none⟩)) ∧ FoS b f w f1 w1 := ⟨h.mem.s1, h.mem.s2, h⟩
set_option maxHeartbeats 2000000 in
set_option maxRecDepth 100000 in
theorem fo_connected (w : World) (b : Nat) (f : FoG) (g : Nat → GE) (L F : Nat → Prop) (h : FoM w b f) (hp : FoP f g L F) (x y : Nat) (hx : x < f.V) (hy : y < f.V) :
    Calls Tryz.prog 33 #[.pointer (some ⟨b, 0, none⟩), .int .i64 (x : Int), .int .i64 (y : Int)] w (FoCo w b f (Rch (Lnk g L) x y)) := by
  have HP := Lib.hid hp
  have H0 := Lib.hid (FoS.refl h)
  have hsz := hp.sz
  have hwx : IntKind.i64.wrap ((f.S : Int) + (x : Int)) = ((f.S + x : Nat) : Int) := by rw [IntWalk.i64_in _ (by omega)]; omega
  have hwy : IntKind.i64.wrap ((f.S : Int) + (y : Int)) = ((f.S + y : Nat) : Int) := by rw [IntWalk.i64_in _ (by omega)]; omega
  clear h hp
  go_enter Tryz.func33, Tryz.ntmps33
  go_upto_region 1 with fail
  go_region_held3 (fun w' => w'.cell? ⟨b, 1, none⟩ = some (.int .i64 (f.S : Int)) ∧ w'.cell? ⟨b, 2, none⟩ = some (.pointer (some ⟨f.lp, 0, none⟩)) ∧ FoS b f w f w')
    (((try go_split_ands); refine fs_keep4 ?_; first | assumption | exact H0.out | exact (FoS.drew H0.out) | exact FoS.drew (by assumption)))
    (first | (go_at_call 63; (try go_split_ands); (first | (with_reducible refine (fo_has b f.mb f.V x _ (FoM.s4 (FoS.mem (show FoS b f w f _ by assumption))) (FoM.s0 (FoS.mem (show FoS b f w f _ by assumption))) hx).mono ?_) | (with_reducible refine (fo_has b f.mb f.V y _ (FoM.s4 (FoS.mem (show FoS b f w f _ by assumption))) (FoM.s0 (FoS.mem (show FoS b f w f _ by assumption))) hy).mono ?_)); rintro e w' ⟨rfl, rfl⟩) | (go_at_call 73; (try go_split_ands); refine (fo_lconn _ b f g L F (FoS.mem (show FoS b f w f _ by assumption)) HP.out hx hy).mono ?_; rintro e w5 ⟨⟨c, rfl, hcc⟩, hst⟩; have hI5 := FoS.trans (show FoS b f w f _ by assumption) hst; have HCC := Lib.hid hcc; clear hst hcc))
  all_goals
    go_wp2_with fail
    go_ret
    exact ⟨⟨_, rfl, HCC.out⟩, by assumption⟩
structure FoUn (w : World) (b : Nat) (f : FoG) (g : Nat → GE) (L : Nat → Prop) (x y : Nat) (e : Ending) (w' : World) : Prop where
  yes : Rch (Lnk g L) x y → ∃ ex, e = .returned (.tuple #[.int .i64 ex, .bool true]) ∧ (∃ m, L m ∧ ex = (g m).exp) ∧ Rch (Lnk g fun s => L s ∧ ex ≤ (g s).exp) x y ∧ ¬ Rch (Lnk g fun s => L s ∧ ex < (g s).exp) x y
  no : ¬ Rch (Lnk g L) x y → e = .returned (.tuple #[.int .i64 0, .bool false])
  st : FoS b f w f w'
theorem until_plain {f : FoG} {g : Nat → GE} {L F : Nat → Prop} (hp : FoP f g L F) {x y m : Nat} (hF : F m) (h1 : Rch (Lnk g fun t => F t ∧ Nb g t m) x y) (h2 : ¬ Rch (Lnk g fun t => F t ∧ t ≠ m) x y) :
    (∃ n, L n ∧ (g m).exp = (g n).exp) ∧ Rch (Lnk g fun s => L s ∧ (g m).exp ≤ (g s).exp) x y ∧ ¬ Rch (Lnk g fun s => L s ∧ (g m).exp < (g s).exp) x y := by
  refine ⟨⟨m, hp.FL m hF, rfl⟩, ?_, ?_⟩
  · refine h1.mono (Lnk.mono fun t k => ⟨hp.FL t k.1, ?_⟩)
    have := k.2
    unfold Nb at this
    omega
  · intro k
    have k2 := hp.span.rch (K := fun s => (g m).exp < (g s).exp) (fun s t h n => by unfold Nb at n; omega) k
    refine h2 (k2.mono (Lnk.mono fun t k => ⟨k.1, fun c => ?_⟩))
    have := k.2
    rw [c] at this
    exact absurd this (Int.lt_irrefl _)
set_option maxHeartbeats 2000000 in
set_option maxRecDepth 100000 in
theorem fo_until (w : World) (b : Nat) (f : FoG) (g : Nat → GE) (L F : Nat → Prop) (h : FoM w b f) (hp : FoP f g L F) (x y : Nat) (hx : x < f.V) (hy : y < f.V) (hxy : x ≠ y) :
    Calls Tryz.prog 27 #[.pointer (some ⟨b, 0, none⟩), .int .i64 (x : Int), .int .i64 (y : Int)] w (FoUn w b f g L x y) := by
  have HP := Lib.hid hp
  have H0 := Lib.hid (FoS.refl h)
  have hsz := hp.sz
  have hwx : IntKind.i64.wrap ((f.S : Int) + (x : Int)) = ((f.S + x : Nat) : Int) := by rw [IntWalk.i64_in _ (by omega)]; omega
  have hwy : IntKind.i64.wrap ((f.S : Int) + (y : Int)) = ((f.S + y : Nat) : Int) := by rw [IntWalk.i64_in _ (by omega)]; omega
  have HA := Lib.hid (fo_has b f.mb f.V x w h.s4 h.s0 hx)
  have HB := Lib.hid (fo_has b f.mb f.V y w h.s4 h.s0 hy)
  have t3 : ((x : Int) == (y : Int)) = false := by rw [beq_eq_false_iff_ne]; omega
  have t3' : decide (x = y) = false := decide_eq_false hxy
  have HX := Lib.hid hxy
  clear h hp
  go_enter Tryz.func27, Tryz.ntmps27
  go_upto_region 3 with (go_at_call 63; (first | (with_reducible refine HA.out.mono ?_) | (with_reducible refine HB.out.mono ?_)); rintro e w' ⟨rfl, rfl⟩)
  clear t3 t3' HA HB
  by_cases hc : Rch (Lnk g F) x y
  · have HC := Lib.hid hc
    clear hc
    go_region_held3 (fun w' => w'.cell? ⟨b, 1, none⟩ = some (.int .i64 (f.S : Int)) ∧ w'.cell? ⟨b, 2, none⟩ = some (.pointer (some ⟨f.lp, 0, none⟩)) ∧ FoS b f w f w')
      (((try go_split_ands); refine fs_keep4 ?_; first | assumption | exact H0.out | exact (FoS.drew H0.out) | exact FoS.drew (by assumption)))
      ((go_at_call 64; (try go_split_ands); refine (fo_min _ b f g L F (FoS.mem (show FoS b f w f _ by assumption)) HP.out.toFoP0 hx hy HX.out).mono ?_; rintro e w5 ⟨hyes, hno, hst⟩; obtain ⟨m, rfl, hfm, hr1, hr2⟩ := hyes HC.out; have hI5 := FoS.trans (show FoS b f w f _ by assumption) hst; have HI5 := Lib.hid hI5; have HR := Lib.hid (until_plain HP.out hfm hr1 hr2); have HFM := Lib.hid hfm; clear hyes hno hst hr1 hr2 hfm))
    all_goals
      have hms := (HP.out.ls m (HP.out.FL m HFM.out)).1
      have hmm : f.fm (m : Int) = some (edV (g m).a (g m).b (g m).exp true) := by rw [HP.out.fm, fmF_yes (HP.out.FL m HFM.out) HFM.out]
      have hlk := HI5.out.mem.map.look Tryz.underlying3 Tryz.underlying113 (Tryz.zeroEdge w5) (i := (m : Int)) (wf_i64K (by omega) (by omega))
      rw [hmm] at hlk
      replace hlk : (Instr.lookup 113 (.map (some f.mb)) (.int .i64 (m : Int)) false).run Tryz.prog w5 = .ok (.agg #[.int .i64 ((g m).a : Int), .int .i64 ((g m).b : Int), .int .i64 (g m).exp, .bool true]) w5 := hlk
      have hfd : (Instr.field 117 (.agg #[.int .i64 ((g m).a : Int), .int .i64 ((g m).b : Int), .int .i64 (g m).exp, .bool true]) 2).run Tryz.prog w5 = .ok (.int .i64 (g m).exp) w5 := by kernel_rfl
      have c4 := HI5.out.mem.s4
      clear hmm
      go_wp2_with fail
      go_ret2
      exact ⟨fun _ => ⟨_, rfl, HR.out⟩, fun k => absurd (HP.out.conn.1 HC.out) k, HI5.out⟩
  · have HC := Lib.hid hc
    clear hc
    go_region_held3 (fun w' => w'.cell? ⟨b, 1, none⟩ = some (.int .i64 (f.S : Int)) ∧ w'.cell? ⟨b, 2, none⟩ = some (.pointer (some ⟨f.lp, 0, none⟩)) ∧ FoS b f w f w')
      (((try go_split_ands); refine fs_keep4 ?_; first | assumption | exact H0.out | exact (FoS.drew H0.out) | exact FoS.drew (by assumption)))
      ((go_at_call 64; (try go_split_ands); refine (fo_min _ b f g L F (FoS.mem (show FoS b f w f _ by assumption)) HP.out.toFoP0 hx hy HX.out).mono ?_; rintro e w5 ⟨hyes, hno, hst⟩; obtain rfl := hno HC.out; have hI5 := FoS.trans (show FoS b f w f _ by assumption) hst; have HI5 := Lib.hid hI5; clear hyes hno hst))
    all_goals
      go_wp2_with fail
      go_ret2
      exact ⟨fun k => absurd (HP.out.conn.2 k) HC.out, fun _ => rfl, HI5.out⟩
theorem fo_until_eq (w : World) (b : Nat) (f : FoG) (h : FoM w b f) (x : Nat) (hx : x < f.V) :
    Calls Tryz.prog 27 #[.pointer (some ⟨b, 0, none⟩), .int .i64 (x : Int), .int .i64 (x : Int)] w (Ret (.tuple #[.int .i64 0, .bool false]) w) := by
  have HA := Lib.hid (fo_has b f.mb f.V x w h.s4 h.s0 hx)
  have t3 : ((x : Int) == (x : Int)) = true := beq_self_eq_true _
  clear h
  go_enter Tryz.func27, Tryz.ntmps27
  go_wp2_with (go_at_call 63; refine HA.out.mono ?_; rintro e w' ⟨rfl, rfl⟩)
  go_ret2
  exact ⟨rfl, rfl⟩
end Go.Proofs.YtlooaipipmiijaaGreat
