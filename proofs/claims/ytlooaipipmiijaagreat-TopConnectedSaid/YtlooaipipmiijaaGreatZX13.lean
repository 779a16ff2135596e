/- Several texts in one: InF, InG, ArE, InH, Cmp. -/
import Derived.Test.YtlooaipipmiijaaGreatZX01
import Derived.Test.YtlooaipipmiijaaGreatZX04
import Derived.Test.YtlooaipipmiijaaGreatZX10
import Derived.Test.YtlooaipipmiijaaGreatZX12
import Derived.Test.YtlooaipipmiijaaGreatRows
namespace Go.Proofs.YtlooaipipmiijaaGreat
set_option linter.unusedVariables false
set_option linter.unusedSimpArgs false
open Go.RowKit
theorem wr_sub {a b n : Nat} (ha : a < n) (hb : b < n) (hn : n ≤ 1099511627776) : IntKind.i64.wrap ((a : Int) - (b : Int)) = (a : Int) - (b : Int) := IntWalk.i64_in _ (by omega)
theorem wr_dec {a : Nat} {i : Nat} (ha : a = i + 1) (hi : i ≤ 1099511627776) : IntKind.i64.wrap ((a : Int) - 1) = (i : Int) := by rw [ha, IntWalk.i64_in _ (by omega)]; omega
structure InCl (w : World) (b L : Nat) (G : IG) (D : Nat → Nat) (P : Nat → Prop) (e : Ending) (w' : World) : Prop where
  val : ∃ v, e = .returned v
  ex : ∃ C, InR w' b { G with C := C } L D ∧ TabP G.n C (fun v => hF G.n (D (v - 1))) ∧ ∀ v, P v ↔ v ≠ 0 ∧ ∃ d, d < G.n ∧ C d = v
  mod : Mod (fun k => k = G.cb) w w'
set_option maxHeartbeats 4000000 in
set_option maxRecDepth 100000 in
theorem in_clear (w : World) (b L S hole : Nat) (G : IG) (D : Nat → Nat) (P : Nat → Prop) (z : Nat) (hr : InR w b G L D) (hh : HoleP G.n G.C (fun v => hF G.n (D (v - 1))) P z hole hole) (hl : ∀ c, c < G.n → G.C c ≠ 0 → G.C c ≤ L) (hL : L ≤ 65536) :
    Calls Tryz.prog 104 #[.pointer (some ⟨b, 0, none⟩), .int .i64 (hole : Int)] w (InCl w b L G D P) := by
  have hnb := hr.nb
  have HM := Lib.hid (⟨hr.pw, hr.mb⟩ : G.n = 2 ^ G.m ∧ G.m ≤ 40)
  have c3 := hr.c3
  have HR : Hid (InR w b { G with C := G.C } L D) := hr
  have HH := Lib.hid hh
  have HL := Lib.hid hl
  have hz := hh.zl
  have hwm : IntKind.i64.wrap ((G.n : Int) - 1) = (G.n : Int) - 1 := IntWalk.i64_in _ (by omega)
  clear hr hh hl
  go_enter Tryz.func104, Tryz.ntmps104
  go_wp2_with fail
  go_step3
  go_wp2_with fail
  go_step3
  go_wp2_with fail
  clear c3
  go_loopw [1, 5] (fun s1 s5 wr => ∃ (hole c : Nat) (C : Nat → Nat), s1 = .int .i64 (hole : Int) ∧ s5 = .int .i64 (c : Int) ∧ InR wr b { G with C := C } L D ∧ Hid (HoleP G.n C (fun v => hF G.n (D (v - 1))) P z hole c) ∧ Hid (∀ c, c < G.n → C c ≠ 0 → C c ≤ L) ∧ Mod (fun k => k = G.cb) w wr) (fun _ s5 _ => dst G.n (intOf s5).toNat z)
  case atStart => exact ⟨hole, hole, G.C, rfl, rfl, HR.out, HH, HL, Mod.refl _ _⟩
  case round =>
    obtain ⟨hole, c, C, rfl, rfl, hir, HP, HLc, hmr⟩ := hrel
    have HIR := Lib.hid hir
    have HMR := Lib.hid hmr
    have hcl := HP.out.cl
    have hll := HP.out.ll
    have hn1 := nxc_lt hcl
    have hand := mask_next HM.out.1 HM.out.2 hcl
    have hw1 : IntKind.i64.wrap ((c : Int) + 1) = (c : Int) + 1 := IntWalk.i64_in _ (by omega)
    have hme := HP.out.meas
    have c3 : wr.cell? ⟨b, 3, none⟩ = some (.slice (some ⟨G.cb, 0, none⟩) G.n G.cp) := hir.c3
    have cc : wr.cell? ⟨G.cb, nxc G.n c, none⟩ = some (.int .i64 (C (nxc G.n c) : Int)) := hir.cc hn1
    have ch : wr.cell? ⟨G.cb, hole, none⟩ = some (.int .i64 (C hole : Int)) := hir.cc hll
    have fh : wr.frozen? ⟨G.cb, hole, none⟩ = false := hir.cel.frozenAt hole
    have HIT := Lib.hid (mask_dst HM.out.1 HM.out.2 hll hn1)
    have tn : (nxc G.n c : Int) < (G.n : Int) := by omega
    have th : (hole : Int) < (G.n : Int) := by omega
    have HN1 := Lib.hid hn1
    have HME := Lib.hid hme
    clear hir hmr HR HH HL hme
    by_cases h0 : C (nxc G.n c) = 0
    · have t1 : (((C (nxc G.n c) : Nat) : Int) == 0) = true := by rw [h0]; rfl
      have HD := Lib.hid (HP.out.done h0)
      have HS := Lib.hid (HIR.out.setC (c := hole) hll 0)
      clear h0 hn1 HIT
      generalize C (nxc G.n c) = cv at *
      generalize nxc G.n c = c' at *
      go_wp2_with fail
      exact ⟨rfl, _, results_none rfl _ _ _, ⟨⟨_, rfl⟩, ⟨_, HS.out.1, HD.out.1, HD.out.2⟩, HMR.out.trans HS.out.2 (fun x _ e => e)⟩⟩
    · have t1 : (((C (nxc G.n c) : Nat) : Int) == 0) = false := by rw [beq_eq_false_iff_ne]; omega
      have hcv := HLc.out _ hn1 h0
      obtain ⟨i, hi⟩ : ∃ i, C (nxc G.n c) = i + 1 := ⟨C (nxc G.n c) - 1, by omega⟩
      obtain ⟨g, cap, hiv, ci, _, _⟩ := HIR.out.id (i := i) (by omega)
      have c2 : wr.cell? ⟨b, 2, none⟩ = some G.iv := HIR.out.c2
      have hiv' : G.iv = .slice (some ⟨g, 0, none⟩) L cap := hiv
      rw [hiv'] at c2
      have hcv2 : IntKind.i64.wrap (((C (nxc G.n c) : Nat) : Int) - 1) = (i : Int) := wr_dec hi (by omega)
      have ti : (i : Int) < (L : Int) := by omega
      have HHM := Lib.hid (in_home wr b G.cb G.n G.cp G.m (D i) c3 HM.out.1 HM.out.2)
      have hhl := (hF_val (id := D i) HM.out.1 HM.out.2).2
      have hm1 := mask_dst HM.out.1 HM.out.2 hhl hn1
      have hm2 := HIT.out
      have hq1 : IntKind.i64.wrap ((nxc G.n c : Int) - (hF G.n (D i) : Int)) = (nxc G.n c : Int) - (hF G.n (D i) : Int) := wr_sub hn1 hhl hnb
      have hq2 : IntKind.i64.wrap ((nxc G.n c : Int) - (hole : Int)) = (nxc G.n c : Int) - (hole : Int) := wr_sub hn1 hll hnb
      have hd1 := dst_lt hhl hn1
      have hd2 := dst_lt hll hn1
      have H0 := Lib.hid h0
      have HV : Hid (hF G.n (D (C (nxc G.n c) - 1)) = hF G.n (D i)) := by show _ = _; rw [hi]; rfl
      clear hiv hiv' hcv hi h0 HIT
      by_cases hlt : dst G.n (hF G.n (D i)) (nxc G.n c) < dst G.n hole (nxc G.n c)
      · have t2 : decide (((dst G.n (hF G.n (D i)) (nxc G.n c) : Nat) : Int) < ((dst G.n hole (nxc G.n c) : Nat) : Int)) = true := decide_eq_true (by omega)
        have t3 : decide (dst G.n (hF G.n (D i)) (nxc G.n c) < dst G.n hole (nxc G.n c)) = true := decide_eq_true hlt
        have HP2 := Lib.hid (HP.out.skip H0.out (by show dst G.n (hF G.n (D (C (nxc G.n c) - 1))) _ < _; rw [HV.out]; exact hlt))
        clear hlt H0 HV
        generalize C (nxc G.n c) = cv at *
        generalize dst G.n (hF G.n (D i)) (nxc G.n c) = x1 at *
        generalize dst G.n hole (nxc G.n c) = x2 at *
        generalize hF G.n (D i) = hv at *
        generalize D i = di at *
        generalize nxc G.n c = c' at *
        go_wp2_with (go_at_call 132; refine HHM.out.mono ?_; rintro e w' ⟨rfl, rfl⟩)
        go_roundw
        case rel => exact ⟨hole, c', C, rfl, rfl, HIR.out, HP2.out, HLc, HMR.out⟩
        case measure => simp only [intOf, Int.toNat_natCast]; have := HME.out; omega
      · have t2 : decide (((dst G.n (hF G.n (D i)) (nxc G.n c) : Nat) : Int) < ((dst G.n hole (nxc G.n c) : Nat) : Int)) = false := decide_eq_false (by omega)
        have t3 : decide (dst G.n (hF G.n (D i)) (nxc G.n c) < dst G.n hole (nxc G.n c)) = false := decide_eq_false hlt
        have HP2 := Lib.hid (HP.out.move H0.out (by show ¬ dst G.n (hF G.n (D (C (nxc G.n c) - 1))) _ < _; rw [HV.out]; exact hlt))
        have HS := Lib.hid (HIR.out.setC (c := hole) hll (C (nxc G.n c)))
        have HL2 : Hid (∀ d, d < G.n → upC C hole (C (nxc G.n c)) d ≠ 0 → upC C hole (C (nxc G.n c)) d ≤ L) := fun d hd h => by
          by_cases e : d = hole
          · rw [e, uC_same]; exact HLc.out _ HN1.out H0.out
          · rw [uC_ne _ _ e] at h ⊢; exact HLc.out d hd h
        clear hlt H0 HV
        generalize C (nxc G.n c) = cv at *
        generalize dst G.n (hF G.n (D i)) (nxc G.n c) = x1 at *
        generalize dst G.n hole (nxc G.n c) = x2 at *
        generalize hF G.n (D i) = hv at *
        generalize D i = di at *
        generalize nxc G.n c = c' at *
        go_wp2_with (go_at_call 132; refine HHM.out.mono ?_; rintro e w' ⟨rfl, rfl⟩)
        go_roundw
        case rel => exact ⟨c', c', _, rfl, rfl, HS.out.1, HP2, HL2, HMR.out.trans HS.out.2 (fun x _ e => e)⟩
        case measure => simp only [intOf, Int.toNat_natCast]; have := HME.out; omega
end Go.Proofs.YtlooaipipmiijaaGreat

namespace Go.Proofs.YtlooaipipmiijaaGreat
set_option linter.unusedVariables false
set_option linter.unusedSimpArgs false
open Go.RowKit
structure InDl (w : World) (b S : Nat) (Lv : Nat → Prop) (D : Nat → Nat) (F : Nat → Prop) (id : Nat) (e : Ending) (w' : World) : Prop where
  no : (∀ i, Lv i → D i ≠ id) → e = .returned (.int .i64 5) ∧ InO w' b S Lv D F ∧ Below w.heap.size w w'
  yes : ∀ i, Lv i → D i = id → e = .returned (.int .i64 0) ∧ InO w' b S (fun x => Lv x ∧ x ≠ i) (upC D i 0) F ∧ Mod F w w'
theorem InP.del {G : IG} {S L : Nat} {Lv : Nat → Prop} {D : Nat → Nat} (h : InP G S L Lv D) {i c v : Nat} {C : Nat → Nat} (hc : G.C c = i + 1)
    (ht : TabP G.n C (fun v => hF G.n (D (v - 1)))) (hm : ∀ v, (v ≠ G.C c ∧ v ≠ 0 ∧ ∃ d, d < G.n ∧ G.C d = v) ↔ v ≠ 0 ∧ ∃ d, d < G.n ∧ C d = v) : InP { G with C := C } S L (fun x => Lv x ∧ x ≠ i) (upC D i v) := by
  refine ⟨ht.congr fun d hd h0 => ?_, fun u => ?_, fun x y hx hy e => ?_, h.two⟩
  · show hF G.n (upC D i v (C d - 1)) = _
    have := ((hm (C d)).2 ⟨h0, d, hd, rfl⟩).1
    rw [uC_ne _ _ (by omega)]
  · show _ ↔ u ≠ 0 ∧ ∃ d, d < G.n ∧ C d = u
    rw [← hm u, hc]
    constructor
    · rintro ⟨j, rfl, j1, j2⟩
      exact ⟨by omega, (h.mem _).1 ⟨j, rfl, j1⟩⟩
    · rintro ⟨h1, h2⟩
      obtain ⟨j, j1, j2⟩ := (h.mem u).2 h2
      exact ⟨j, j1, j2, by omega⟩
  · rw [uC_ne _ _ hx.2, uC_ne _ _ hy.2] at e
    exact h.inj x y hx.1 hy.1 e
set_option maxHeartbeats 4000000 in
set_option maxRecDepth 100000 in
theorem in_del (w : World) (b S : Nat) (Lv : Nat → Prop) (D : Nat → Nat) (F : Nat → Prop) (h : InO w b S Lv D F) (id : Nat) :
    Calls Tryz.prog 62 #[.pointer (some ⟨b, 0, none⟩), .int .u64 id] w (InDl w b S Lv D F id) := by
  have HO := Lib.hid h
  obtain ⟨G, L, FA, hr, hp, ha, h4, h5⟩ := h
  have HV := Lib.hid (in_valid b w hr.c0)
  have HFD := Lib.hid (in_find w b S L G Lv D id hr hp (fun i hi => (ha.lvb hi).1))
  have hh := (hF_val (id := id) hr.pw hr.mb).2
  have HH := Lib.hid hh
  have HR := Lib.hid hr
  have HP := Lib.hid hp
  have HA := Lib.hid ha
  have H4 := Lib.hid h4
  have H5 := Lib.hid h5
  have hsz := ha.sz
  have hL : L ≤ 65536 := by omega
  have HLV : Hid (∀ i, Lv i → i < L) := fun i hi => (ha.lvb hi).1
  clear hr hp ha h4 h5 hh
  go_enter Tryz.func62, Tryz.ntmps62
  go_upto_region 4 with (first | (go_at_call 102; refine HV.out.mono ?_; rintro e w' ⟨rfl, rfl⟩) | (go_at_call 103; refine HFD.out.mono ?_; rintro e w1 ⟨⟨c, f, rfl, hE⟩, hb1⟩; have HE := Lib.hid hE; have HB1 := Lib.hid hb1; clear hE hb1))
  cases f with
  | false =>
    have HNO := Lib.hid (HP.out.no HH.out HE.out)
    go_wp2_with fail
    go_ret
    exact ⟨fun _ => ⟨rfl, HO.out.below HB1.out, HB1.out⟩, fun i h1 h2 => absurd h2 (HNO.out i h1)⟩
  | true =>
    obtain ⟨i, e1, e2, e3⟩ := HP.out.yes HE.out
    have HI : Hid (Lv i ∧ D i = id) := ⟨e2, e3⟩
    have hi := HLV.out i e2
    have hR1 := HR.out.below HB1.out
    have hA1 := HA.out.below HB1.out
    have c1 := hR1.c1
    have c3 := hR1.c3
    have cc := hR1.cc HE.out.1
    have hcn : (c : Int) < (G.n : Int) := by have := HE.out.1; omega
    have hw1 : IntKind.i64.wrap (((G.C c : Nat) : Int) - 1) = (i : Int) := wr_dec e1 (by omega)
    have HFR := Lib.hid (ar_free w1 G.ab S L i Lv FA hA1 e2)
    have HR1 := Lib.hid hR1
    have HC0 : Hid (G.C c = i + 1) := e1
    clear e1 e2 e3 hR1 hA1
    go_upto_region 10 with (go_at_call 59; refine HFR.out.mono ?_; rintro e w2 ⟨rfl, hao, hmd⟩; have HAO := Lib.hid hao; have HMD := Lib.hid hmd; clear hao hmd)
    clear c1 c3 cc hw1
    have HR2 := Lib.hid (HR1.out.mod HMD.out (fun k hk c => (H4.out k c).1 hk))
    obtain ⟨z, hz⟩ := HoleP.start HP.out.tab HE.out.1 (by rw [HC0.out]; omega)
    have HCL := Lib.hid (in_clear w2 b L S c G D _ z HR2.out hz (fun d hd h0 => by
      obtain ⟨j, j1, j2⟩ := HP.out.val hd h0
      have := HLV.out j j2; omega) hL)
    clear hz
    go_upto_region 11 with (go_at_call 104; refine HCL.out.mono ?_; rintro e w3 ⟨⟨v, rfl⟩, ⟨C, hr3, ht3, hm3⟩, hmd3⟩; have HR3 := Lib.hid hr3; have HT3 := Lib.hid ht3; have HM3 := Lib.hid hm3; have HMD3 := Lib.hid hmd3; clear hr3 ht3 hm3 hmd3)
    obtain ⟨g, cap, hiv, ci, cf, _⟩ := HR3.out.id (i := i) hi
    have c2 := HR3.out.c2
    rw [hiv] at c2
    have HS := Lib.hid (HR3.out.setI (i := i) hiv hi 0)
    have ti : (i : Int) < (L : Int) := by omega
    clear hiv
    go_wp2_with fail
    go_ret
    have hno := HP.out
    refine ⟨fun h => absurd HI.out.2 (h i HI.out.1), fun j hj1 hj2 => ?_⟩
    obtain rfl : j = i := HP.out.inj j i hj1 HI.out.1 (by rw [hj2, HI.out.2])
    have hm5 : Mod (fun k => G.foot b k) w2 (w3.setCell ⟨g, j, none⟩ (.int .u64 ((0 : Nat) : Int))) := (HMD3.out.mono (G := fun k => G.foot b k) (fun k _ e => .inr (.inl e))).trans HS.out.2.1 (fun k _ (e : k = g) => by rw [e]; exact HS.out.2.2)
    refine ⟨rfl, ⟨{ G with C := C }, L, FA, HS.out.1, HP.out.del HC0.out HT3.out HM3.out, HAO.out.mod hm5 (fun k hk => (H4.out k hk).1), H4.out, H5.out⟩, ?_⟩
    exact ((Mod.of_below (F := F) HB1.out).trans HMD.out (fun x _ e => (H4.out x e).2)).trans hm5 (fun x _ e => H5.out x e)
end Go.Proofs.YtlooaipipmiijaaGreat

namespace Go.Proofs.YtlooaipipmiijaaGreat
set_option linter.unusedVariables false
set_option linter.unusedSimpArgs false
open Go.RowKit
structure ArNw (w : World) (S : Nat) (e : Ending) (w' : World) : Prop where
  ex : ∃ b, e = .returned (.tuple #[.pointer (some ⟨b, 0, none⟩), .int .i64 0]) ∧ ArO w' b S 0 (fun _ => False) (fun k => w.heap.size ≤ k) ∧ w.heap.size ≤ b
  bel : Below w.heap.size w w'
set_option maxHeartbeats 4000000 in
set_option maxRecDepth 100000 in
theorem ar_new (w : World) (S : Nat) (hS : S ≤ 65536) : Calls Tryz.prog 79 #[.int .i64 (S : Int)] w (ArNw w S) := by
  have t1 : decide ((S : Int) < 0) = false := decide_eq_false (by omega)
  have t2 : decide ((65536 : Int) < (S : Int)) = false := decide_eq_false (by omega)
  have t3 : decide (65536 < S) = false := decide_eq_false (by omega)
  have HX := Lib.hid (Blk.new w 161 [.pointer none, .slice none 0 0, .int .i64 (S : Int), .int .i64 0, .int .i64 0, .int .i64 (-1)])
  have HB := Lib.hid (bel_alloc w (.cells #[.pointer none, .slice none 0 0, .int .i64 (S : Int), .int .i64 0, .int .i64 0, .int .i64 (-1)] 161))
  go_enter Tryz.func79, Tryz.ntmps79
  go_upto_region 4 with fail
  obtain ⟨b, HBE⟩ : ∃ b, Hid (w.heap.size = b) := ⟨_, rfl⟩
  have HX' : Hid (Blk (w.alloc (.cells #[.pointer none, .slice none 0 0, .int .i64 (S : Int), .int .i64 0, .int .i64 0, .int .i64 (-1)] 161)) b 161 [.pointer none, .slice none 0 0, .int .i64 (S : Int), .int .i64 0, .int .i64 0, .int .i64 (-1)]) := by rw [← HBE.out]; exact HX.out
  simp only [HBE.out]
  have HB' := HB
  clear HX HB
  generalize (w.alloc (.cells #[.pointer none, .slice none 0 0, .int .i64 (S : Int), .int .i64 0, .int .i64 0, .int .i64 (-1)] 161)) = w1 at *
  have d0 := HX'.out.cell (i := 0) rfl
  have f0 := HX'.out.free 0
  have HO : Hid (ArO (w1.setCell ⟨b, 0, none⟩ (.pointer (some ⟨b, 0, none⟩))) b S 0 (fun _ => False) (fun k => w.heap.size ≤ k)) := by
    refine ⟨⟨.slice none 0 0, 0, fun _ => 0⟩, 0, -1, fun _ => sl0, ⟨HX'.out.set 0 _, World.ownsRow_nil _ _ _ _, fun j hj => absurd hj (Nat.not_lt_zero j), by simp [Value.ownBlock], fun j hj => absurd hj (Nat.not_lt_zero j), fun i j hi => absurd hi (Nat.not_lt_zero i), rfl⟩, ArP.init S hS _, ?_⟩
    rintro k (e | e | ⟨j, hj, _⟩)
    · show w.heap.size ≤ k; rw [e, HBE.out]; exact Nat.le_refl _
    · simp [Value.ownBlock] at e
    · exact absurd hj (Nat.not_lt_zero j)
  have HB2 := Lib.hid (bel_mod HB'.out (Mod.setCell (Mod.refl (fun x => x = b) w1) ⟨b, 0, none⟩ (fun _ => rfl) (.pointer (some ⟨b, 0, none⟩))) (fun x e => by rw [e]; exact Nat.le_of_eq HBE.out))
  go_wp2_with fail
  go_ret2
  exact ⟨⟨b, rfl, HO.out, Nat.le_of_eq HBE.out⟩, HB2.out⟩
end Go.Proofs.YtlooaipipmiijaaGreat

namespace Go.Proofs.YtlooaipipmiijaaGreat
set_option linter.unusedVariables false
set_option linter.unusedSimpArgs false
open Go.RowKit
structure InNw (w : World) (S : Nat) (e : Ending) (w' : World) : Prop where
  ex : ∃ b, e = .returned (.tuple #[.pointer (some ⟨b, 0, none⟩), .int .i64 0]) ∧ InO w' b S (fun _ => False) (fun _ => 0) (fun k => w.heap.size ≤ k) ∧ w.heap.size ≤ b
  bel : Below w.heap.size w w'
theorem Tryz.infoIntI : (Tryz.prog.info? 3).map (fun i => (i.zero, i.size, i.bytes)) = some (some (.int .i64 0), 1, 8) := by kernel_rfl
theorem cRow_zero (n : Nat) : cRow n (fun _ => 0) = List.replicate n (.int .i64 0) := by
  apply List.ext_getElem?
  intro q
  by_cases hq : q < n
  · rw [cRow_get hq, List.getElem?_replicate, if_pos hq]; rfl
  · rw [List.getElem?_eq_none (by rw [cRow_len]; omega), List.getElem?_eq_none (by rw [List.length_replicate]; omega)]
theorem pow_room {m S : Nat} (hm : m ≤ 17) (h : 2 ^ m < 2 * S) (hS : S ≤ 65536) : m + 1 ≤ 17 := by
  by_cases c : m = 17
  · subst c
    have : (2 : Nat) ^ 17 = 131072 := by decide
    omega
  · omega
theorem pow_le17 {m : Nat} (hm : m ≤ 17) : 2 ^ m ≤ 131072 := by
  have h1 : 2 ^ m ≤ 2 ^ 17 := Nat.pow_le_pow_right (by decide) hm
  have h2 : (2 : Nat) ^ 17 = 131072 := by decide
  omega
set_option maxHeartbeats 4000000 in
set_option maxRecDepth 100000 in
theorem in_new (w : World) (S : Nat) (hS : S ≤ 65536) : Calls Tryz.prog 80 #[.int .i64 (S : Int)] w (InNw w S) := by
  have HAN := Lib.hid (ar_new w S hS)
  have hw2 : IntKind.i64.wrap (2 * (S : Int)) = 2 * (S : Int) := IntWalk.i64_in _ (by omega)
  go_enter Tryz.func80, Tryz.ntmps80
  go_wp2_with (go_at_call 79; refine HAN.out.mono ?_; rintro e w1 ⟨⟨ab, rfl, hao, hnab⟩, hb1⟩; have HAO := Lib.hid hao; have HNAB := Lib.hid hnab; have HB1 := Lib.hid hb1; clear hao hnab hb1)
  go_loop [6] (fun s6 => ∃ m : Nat, 1 ≤ m ∧ m ≤ 17 ∧ s6 = .int .i64 ((2 ^ m : Nat) : Int)) (fun s6 => 2 * S - (intOf s6).toNat)
  case atStart => exact ⟨1, by omega, by omega, rfl⟩
  case round =>
    obtain ⟨m, hm1, hm2, rfl⟩ := hrel
    have hp1 := pow_le17 hm2
    have hpow : 2 ^ (m + 1) = 2 * 2 ^ m := by rw [Nat.pow_succ, Nat.mul_comm]
    have hpos : 2 ≤ 2 ^ m := Nat.le_trans (by decide) (Nat.pow_le_pow_right (n := 2) (by decide) hm1)
    have HPOW := Lib.hid hpow
    by_cases hlt : 2 ^ m < 2 * S
    · have hm3 := pow_room hm2 hlt hS
      have HM : Hid (1 ≤ m + 1 ∧ m + 1 ≤ 17) := ⟨by omega, hm3⟩
      clear hm1 hm2 hm3 hpow
      generalize hn : 2 ^ m = n at *
      have HN := Lib.hid hn
      have t1 : decide ((n : Int) < 2 * (S : Int)) = true := decide_eq_true (by omega)
      have hw3 : IntKind.i64.wrap ((n : Int) * 2) = (n : Int) * 2 := IntWalk.i64_in _ (by omega)
      clear hn
      go_wp2_with fail
      go_round
      case rel => exact ⟨m + 1, HM.out.1, HM.out.2, by rw [HPOW.out]; exact congrArg (Value.int .i64) (by omega)⟩
      case measure => simp only [intOf]; omega
    · have HG : Hid (2 ^ m = 2 ^ m ∧ m ≤ 17) := ⟨rfl, hm2⟩
      have HLT : Hid (2 * S ≤ 2 ^ m ∧ 2 ≤ 2 ^ m) := ⟨by omega, hpos⟩
      clear hm1 hm2 hpow HPOW
      generalize hn : 2 ^ m = n at *
      have HN := Lib.hid hn
      clear hn
      have t1 : decide ((n : Int) < 2 * (S : Int)) = false := decide_eq_false (by omega)
      go_wp2_with (at_make; with_reducible refine wpList_makeB 3 (.int .i64 0) 8 Tryz.underlying58 Tryz.infoIntI rfl .i64 .i64 _ _ n rfl rfl rfl rfl (by omega) (by unfold maxLen; omega) ?_)
      intro w2 B1 hb2
      have HBC : Hid (Blk w2 w1.heap.size 3 (cRow n (fun _ => 0))) := by rw [cRow_zero]; exact B1
      have HB2 := Lib.hid hb2
      clear B1 hb2
      obtain ⟨cb, HCB⟩ : ∃ cb, Hid (w1.heap.size = cb) := ⟨_, rfl⟩
      have HX := Lib.hid (Blk.new w2 167 [.pointer none, .pointer (some ⟨ab, 0, none⟩), .slice none 0 0, .slice (some ⟨cb, 0, none⟩) n n])
      have HBX := Lib.hid (bel_alloc w2 (.cells #[.pointer none, .pointer (some ⟨ab, 0, none⟩), .slice none 0 0, .slice (some ⟨cb, 0, none⟩) n n] 167))
      simp only [HCB.out]
      go_upto_region 8 with fail
      obtain ⟨b, HBE⟩ : ∃ b, Hid (w2.heap.size = b) := ⟨_, rfl⟩
      have HX' : Hid (Blk (w2.alloc (.cells #[.pointer none, .pointer (some ⟨ab, 0, none⟩), .slice none 0 0, .slice (some ⟨cb, 0, none⟩) n n] 167)) b 167 [.pointer none, .pointer (some ⟨ab, 0, none⟩), .slice none 0 0, .slice (some ⟨cb, 0, none⟩) n n]) := by rw [← HBE.out]; exact HX.out
      simp only [HBE.out]
      have HBX' := HBX
      clear HX HBX
      generalize (w2.alloc (.cells #[.pointer none, .pointer (some ⟨ab, 0, none⟩), .slice none 0 0, .slice (some ⟨cb, 0, none⟩) n n] 167)) = w3 at *
      have d0 := HX'.out.cell (i := 0) rfl
      have f0 := HX'.out.free 0
      have HSZ : Hid (w.heap.size ≤ w1.heap.size ∧ w1.heap.size < w2.heap.size ∧ ab < w1.heap.size) := ⟨HB1.out.size, HBC.out.lt, HAO.out.self.1⟩
      have HMD := Lib.hid ((Mod.refl (fun x => x = b) w3).setCell ⟨b, 0, none⟩ (fun _ => rfl) (.pointer (some ⟨b, 0, none⟩)))
      have HO : Hid (InO (w3.setCell ⟨b, 0, none⟩ (.pointer (some ⟨b, 0, none⟩))) b S (fun _ => False) (fun _ => 0) (fun k => w.heap.size ≤ k)) := by
        obtain ⟨s1, s2, s3⟩ := HSZ.out
        have e1 := HCB.out
        have e2 := HBE.out
        refine ⟨⟨ab, .slice none 0 0, cb, n, n, m, fun _ => 0⟩, 0, fun k => w.heap.size ≤ k ∧ k < w1.heap.size, ⟨HX'.out.set 0 _, ?_, World.ownsRow_nil _ _ _ _, HN.out.symm, HG.out.2, ?_, by simp [Value.ownBlock], by simp [Value.ownBlock]⟩, ⟨⟨fun c _ h => absurd rfl h, fun c d _ _ h => absurd rfl h, fun c _ h => absurd rfl h, ⟨0, ?_, rfl⟩⟩, fun v => ⟨fun ⟨_, _, h⟩ => h.elim, fun ⟨h1, d, _, d2⟩ => absurd d2.symm h1⟩, fun i j h => h.elim, HLT.out⟩, ?_, ?_, ?_⟩
        · have h1 := (HBC.out.below HBX'.out HBC.out.lt).mod HMD.out (by omega)
          rw [e1] at h1
          have h2 := h1
          unfold Blk at h2
          refine ⟨by rw [cRow_len, Nat.mul_one], .inr ⟨cb, n, _, rfl, Nat.zero_le _, h2, Nat.le_refl _, by unfold maxLen; have := hp1; omega, by rw [List.size_toArray, cRow_len, Nat.mul_one], ?_⟩⟩
          show List.take (n * 1) (cRow n _) = _
          rw [List.take_of_length_le (by rw [cRow_len]; omega)]
        · show b ≠ cb
          omega
        · show 0 < n
          have := HLT.out; omega
        · exact ((HAO.out.tight.below HB2.out).below HBX'.out).mod HMD.out (fun k hk e => by omega)
        · intro k hk
          refine ⟨?_, hk.1⟩
          rintro (e | e | e)
          · omega
          · have e' : k = cb := e
            omega
          · simp [Value.ownBlock] at e
        · rintro k (e | e | e)
          · show w.heap.size ≤ k; omega
          · have e' : k = cb := e
            show w.heap.size ≤ k; omega
          · simp [Value.ownBlock] at e
      have HB3 : Hid (Below w.heap.size w (w3.setCell ⟨b, 0, none⟩ (.pointer (some ⟨b, 0, none⟩)))) := bel_mod (bel_then HB1.out (bel_then HB2.out HBX'.out)) HMD.out (fun x e => by have := HSZ.out; have := HBE.out; omega)
      have HNB : Hid (w.heap.size ≤ b) := by show _ ≤ _; have := HSZ.out; have := HBE.out; omega
      clear HMD
      go_wp2_with fail
      go_ret2
      exact ⟨⟨b, rfl, HO.out, HNB.out⟩, HB3.out⟩
end Go.Proofs.YtlooaipipmiijaaGreat

namespace Go.Proofs.YtlooaipipmiijaaGreat
set_option linter.unusedVariables false
set_option linter.unusedSimpArgs false
open Go.RowKit
set_option maxHeartbeats 400000 in
theorem isNaN64 (a : Int) (w : World) : Calls Tryz.prog 169 #[.int .i64 a] w (Ret (.bool false) w) := by
  go_enter Tryz.func169, Tryz.ntmps169
  go_wp2
  go_ret
  exact ⟨by simp, rfl⟩
set_option maxHeartbeats 400000 in
theorem isNaNi (a : Int) (w : World) : Calls Tryz.prog 170 #[.int .i64 a] w (Ret (.bool false) w) := by
  go_enter Tryz.func170, Tryz.ntmps170
  go_wp2
  go_ret
  exact ⟨by simp, rfl⟩
set_option maxHeartbeats 400000 in
theorem compare64 (a b : Int) (w : World) : Calls Tryz.prog 166 #[.int .i64 a, .int .i64 b] w (Ret (.int .i64 (cmpI a b)) w) := by
  go_enter Tryz.func166, Tryz.ntmps166
  go_wp2_with (go_at_call 169; refine (isNaN64 _ _).mono ?_; rintro e w' ⟨rfl, rfl⟩)
  all_goals
    go_ret
    exact ⟨ret_int (by unfold cmpI; repeat' split; all_goals omega), rfl⟩
set_option maxHeartbeats 400000 in
theorem comparei (a b : Int) (w : World) : Calls Tryz.prog 167 #[.int .i64 a, .int .i64 b] w (Ret (.int .i64 (cmpI a b)) w) := by
  go_enter Tryz.func167, Tryz.ntmps167
  go_wp2_with (go_at_call 170; refine (isNaNi _ _).mono ?_; rintro e w' ⟨rfl, rfl⟩)
  all_goals
    go_ret
    exact ⟨ret_int (by unfold cmpI; repeat' split; all_goals omega), rfl⟩
set_option maxHeartbeats 400000 in
theorem or2 (b : Nat) (x y : Int) (w : World) (hx : w.cell? ⟨b, 0, none⟩ = some (.int .i64 x)) (hy : w.cell? ⟨b, 1, none⟩ = some (.int .i64 y)) :
    Calls Tryz.prog 165 #[.slice (some ⟨b, 0, none⟩) 2 2] w (Ret (.int .i64 (orI x y)) w) := by
  go_enter Tryz.func165, Tryz.ntmps165
  go_wp2
  go_loop [8] (fun i => ∃ k : Nat, k ≤ 2 ∧ i = .int .i64 k ∧ Hid (0 < k → x = 0) ∧ Hid (1 < k → y = 0)) (fun i => 2 - (intOf i).toNat)
  case atStart => exact ⟨0, by omega, rfl, by intro h; omega, by intro h; omega⟩
  case round =>
    obtain ⟨k, hk, rfl, H0, H1⟩ := hrel
    obtain rfl | rfl | rfl : k = 0 ∨ k = 1 ∨ k = 2 := by omega
    · by_cases hz : x = 0
      · have hb : (x != 0) = false := by simp [hz]
        have HZ := Lib.hid hz
        clear hz
        go_wp2
        go_round
        case rel => exact ⟨1, by omega, rfl, fun _ => HZ.out, by intro h; omega⟩
        case measure => simp [intOf]
      · have hb : (x != 0) = true := by simp [hz]
        have HZ := Lib.hid hz
        clear hz
        go_wp2
        go_ret
        exact ⟨ret_int (by unfold orI; rw [if_neg HZ.out]), rfl⟩
    · by_cases hz : y = 0
      · have hb : (y != 0) = false := by simp [hz]
        have HZ := Lib.hid hz
        clear hz
        go_wp2
        go_round
        case rel => exact ⟨2, by omega, rfl, fun _ => H0.out (by omega), fun _ => HZ.out⟩
        case measure => simp [intOf]
      · have hb : (y != 0) = true := by simp [hz]
        have HZ := Lib.hid hz
        clear hz
        go_wp2
        go_ret
        exact ⟨ret_int (by unfold orI; rw [if_pos (H0.out (by omega))]), rfl⟩
    · go_wp2
      go_ret
      exact ⟨ret_int (by unfold orI; rw [if_pos (H0.out (by omega)), H1.out (by omega)]), rfl⟩
set_option maxRecDepth 100000 in
set_option maxHeartbeats 1000000 in
theorem order_any (i j k l : Int) (w : World) :
    Calls Tryz.prog 157 #[.agg #[.int .i64 i, .int .i64 k], .agg #[.int .i64 j, .int .i64 l]] w (RetB (.int .i64 (ordI (i, k) (j, l))) w) := by
  go_enter Tryz.func157, Tryz.ntmps157
  go_wp2
  generalize hW : World.alloc (World.alloc w _) _ = W
  have B1 : Blk W w.heap.size 99 [.int .i64 i, .int .i64 k] := by rw [← hW]; exact (Blk.new w _ _).alloc _
  have B2 : Blk W (w.heap.size + 1) 99 [.int .i64 j, .int .i64 l] := by rw [← hW]; exact Blk.new' (w.alloc _) _ _ (by simp)
  have HB : Below w.heap.size w W := by rw [← hW]; exact ((Below.refl _ _).alloc (Nat.le_refl _) _).alloc (by simp) _
  clear hW
  have c1 := B1.drew.cell (i := 0) rfl
  have c2 := B1.drew.cell (i := 1) rfl
  have c3 := B2.drew.cell (i := 0) rfl
  have c4 := B2.drew.cell (i := 1) rfl
  have HB2 := HB.drew
  clear B1 B2 HB
  refine region_tail 10 (by kernel_rfl) (by kernel_rfl) ?_
  intro w2 hw2
  rw [← hw2] at c1 c2 c3 c4 HB2
  clear hw2
  simp only [List.take_succ_cons, List.take_zero, List.drop_succ_cons, List.drop_zero]
  repeat still_step
  still_call (Ret.still (compare64 k l _))
  repeat still_step
  still_call (Ret.still (comparei i j _))
  refine wpStill_nil ?_
  have HH := Lib.hid HB2
  clear HB2 c1 c2 c3 c4
  go_wp2_with (go_at_call 165; refine (or2 _ (cmpI k l) (cmpI i j) _ (by simp) (by simp)).mono ?_; rintro e w' ⟨rfl, rfl⟩)
  go_ret
  exact ⟨rfl, HH.out.alloc HH.out.size _⟩
end Go.Proofs.YtlooaipipmiijaaGreat
