/- Several texts in one: FoN, FoK, ECopy, WnA, DueP. -/
import Derived.Test.YtlooaipipmiijaaGreatZU04
import Derived.Test.YtlooaipipmiijaaGreatZU05
import Derived.Test.YtlooaipipmiijaaGreatZU17
import Derived.Test.YtlooaipipmiijaaGreatZU31
import Derived.Test.YtlooaipipmiijaaGreatZU33
namespace Go.Proofs.YtlooaipipmiijaaGreat
set_option linter.unusedVariables false
set_option linter.unusedSimpArgs false
open Go.RowKit
structure FoNw (w : World) (V S : Nat) (e : Ending) (w' : World) : Prop where
  ex : ∃ b f, e = .returned (.tuple #[.pointer (some ⟨b, 0, none⟩), .int .i64 0]) ∧ FoM w' b f ∧ FoP f (fun _ => ⟨0, 0, 0⟩) (fun _ => False) (fun _ => False) ∧ f.V = V ∧ f.S = S ∧ f.Q = [] ∧ (∀ k, f.foot b k → w.heap.size ≤ k) ∧ w.heap.size ≤ b
  bel : Below w.heap.size w w'
def keyK (S v : Nat) (x : Nat) : Int := if S + 1 ≤ x ∧ x < S + v + 1 then 9223372036854775807 else 0
theorem keyK_zero (S : Nat) : (fun _ => 0 : Nat → Int) = keyK S 0 := funext fun x => by unfold keyK; rw [if_neg (by omega)]
theorem keyK_succ (S v : Nat) : (fun x => if x = (S + v) + 1 then (9223372036854775807 : Int) else keyK S v x) = keyK S (v + 1) := funext fun x => by
  unfold keyK
  by_cases c : x = S + v + 1
  · rw [if_pos c, if_pos (by omega)]
  · rw [if_neg c]
    by_cases d : S + 1 ≤ x ∧ x < S + v + 1
    · rw [if_pos d, if_pos (by omega)]
    · rw [if_neg d, if_neg (by omega)]
theorem fo_fresh {w w1 w2 : World} {V S lp lg : Nat} (hV : V ≤ 4096) (hS : S ≤ 16384) (hb1 : Below w.heap.size w w1) (hlo : LcO w1 lp lg (S + V) (fun _ _ => False) (keyK S V)) (hlp : w.heap.size ≤ lp) (hlg : w.heap.size ≤ lg) {qb : Nat} {qg : HG} (ho : HObj w2 qb S [] qg) (hf : ∀ k, qg.foot k → w1.heap.size ≤ k) (hb2 : Below w1.heap.size w1 w2) :
    FoNw w V S (.returned (.tuple #[.pointer (some ⟨w2.heap.size + 1, 0, none⟩), .int .i64 0])) ((w2.alloc (.map #[] 0)).alloc (.cells #[.int .i64 (V : Int), .int .i64 (S : Int), .pointer (some ⟨lp, 0, none⟩), .pointer (some ⟨qb, 0, none⟩), .map (some w2.heap.size), .int .i64 0] 115)) := by
  have s1 := hb1.size
  have s2 := hb2.size
  have hbl : Below w2.heap.size w2 ((w2.alloc (.map #[] 0)).alloc (.cells #[.int .i64 (V : Int), .int .i64 (S : Int), .pointer (some ⟨lp, 0, none⟩), .pointer (some ⟨qb, 0, none⟩), .map (some w2.heap.size), .int .i64 0] 115)) := ((Below.refl _ _).alloc (Nat.le_refl _) _).alloc (by simp) _
  have hbk : Blk ((w2.alloc (.map #[] 0)).alloc (.cells #[.int .i64 (V : Int), .int .i64 (S : Int), .pointer (some ⟨lp, 0, none⟩), .pointer (some ⟨qb, 0, none⟩), .map (some w2.heap.size), .int .i64 0] 115)) (w2.heap.size + 1) 115 [.int .i64 (V : Int), .int .i64 (S : Int), .pointer (some ⟨lp, 0, none⟩), .pointer (some ⟨qb, 0, none⟩), .map (some w2.heap.size), .int .i64 0] := Blk.new' _ _ [_, _, _, _, _, _] (by simp)
  have hmk : MapK .i64 ((w2.alloc (.map #[] 0)).alloc (.cells #[.int .i64 (V : Int), .int .i64 (S : Int), .pointer (some ⟨lp, 0, none⟩), .pointer (some ⟨qb, 0, none⟩), .map (some w2.heap.size), .int .i64 0] 115)) Tryz.prog 3 w2.heap.size 0 (fun _ => none) := (MapK.made .i64 w2 Tryz.prog 3).below (bel_alloc _ _) (by simp)
  have hl1 := hlo.lt
  obtain ⟨f, hf'⟩ : ∃ f : FoG, f = ⟨V, S, lp, lg, qb, w2.heap.size, 0, [], qg, fun _ _ => False, keyK S V, fun _ => none, 0, fun k => if k = w2.heap.size + 1 then 0 else if k = w2.heap.size then 3 else if k < w1.heap.size then 1 else 2⟩ := ⟨_, rfl⟩
  have hq := ho.rep.foot_lt
  refine ⟨⟨w2.heap.size + 1, f, rfl, ?_, ?_, by rw [hf'], by rw [hf'], by rw [hf'], ?_, by omega⟩, ((hb1.trans (hb2.mono s1)).trans (hbl.mono (by omega)))⟩
  · refine ⟨by rw [hf']; exact hbk, by rw [hf']; exact (hlo.below hb2).below hbl, by rw [hf']; exact ho.below hbl, by rw [hf']; exact hmk, by rw [hf']; exact if_pos rfl, ?_, fun k hk => ?_, ?_⟩
    · rw [hf']
      show (if lp = w2.heap.size + 1 then 0 else if lp = w2.heap.size then 3 else if lp < w1.heap.size then 1 else 2) = 1 ∧ (if lg = w2.heap.size + 1 then 0 else if lg = w2.heap.size then 3 else if lg < w1.heap.size then 1 else 2) = 1
      rw [if_neg (by omega), if_neg (by omega), if_pos (by omega), if_neg (by omega), if_neg (by omega), if_pos (by omega)]
      exact ⟨rfl, rfl⟩
    · rw [hf'] at hk ⊢
      have h1 := hf k hk
      have h2 := hq k hk
      show (if k = w2.heap.size + 1 then 0 else if k = w2.heap.size then 3 else if k < w1.heap.size then 1 else 2) = 2
      rw [if_neg (by omega), if_neg (by omega), if_neg (by omega)]
    · rw [hf']
      show (if w2.heap.size = w2.heap.size + 1 then 0 else if w2.heap.size = w2.heap.size then 3 else _) = 3
      rw [if_neg (by omega), if_pos rfl]
  · have hc0 : cntP (fun _ : Nat => False) S = 0 := cntP_none S (fun _ _ h => h)
    rw [hf']
    refine ⟨⟨fun s h => h.elim, fun s h => h, fun x y => ⟨fun h => h.elim, fun ⟨s, h, _⟩ => h⟩, fun s h => h.elim, fun v hv => ?_, fun i => ?_, fun i k => Iff.intro (fun h => absurd h List.not_mem_nil) (fun h => by obtain ⟨s, _, h, _⟩ := h; exact h.elim), by rw [hc0]; rfl, hc0.symm, ⟨hS, hV⟩⟩, fun s h => h.elim⟩
    · show keyK S V (S + v + 1) = _
      unfold keyK
      have hv' : v < V := hv
      rw [if_pos (by omega)]
    · show none = fmF _ _ _ i
      unfold fmF
      rw [if_neg (fun e => e.2)]
  · rw [hf']
    rintro k (e | e | e | e | e)
    · omega
    · have e' : k = lp := e
      omega
    · have e' : k = lg := e
      omega
    · have := hf k e; omega
    · have e' : k = w2.heap.size := e
      omega
set_option maxHeartbeats 2000000 in
set_option maxRecDepth 100000 in
theorem fo_new (w : World) (V S : Nat) (hV : V ≤ 4096) (hS : S ≤ 16384) :
    Calls Tryz.prog 43 #[.int .i64 (V : Int), .int .i64 (S : Int)] w (FoNw w V S) := by
  have hw0 : IntKind.i64.wrap ((S : Int) + (V : Int)) = ((S + V : Nat) : Int) := by rw [IntWalk.i64_in _ (by omega)]; omega
  have HLN := Lib.hid (lc_new w (S + V) (by omega))
  have t1 : decide ((V : Int) < 0) = false := decide_eq_false (by omega)
  have t2 : decide ((4096 : Int) < (V : Int)) = false := decide_eq_false (by omega)
  have t3 : decide ((S : Int) < 0) = false := decide_eq_false (by omega)
  have t4 : decide ((16384 : Int) < (S : Int)) = false := decide_eq_false (by omega)
  have u2 : decide (4096 < V) = false := decide_eq_false (by omega)
  have u4 : decide (16384 < S) = false := decide_eq_false (by omega)
  have hmm := @run_makeMap Tryz.prog
  go_enter Tryz.func43, Tryz.ntmps43
  go_upto_region 6 with (go_at_call 82; refine HLN.out.mono ?_; rintro e w1 ⟨⟨lp, lg, rfl, hlo, hlp, hlg⟩, hb1⟩; have HLO := Lib.hid hlo; have HLP : Hid (w.heap.size ≤ lp ∧ w.heap.size ≤ lg) := ⟨hlp, hlg⟩; have HB1 := Lib.hid hb1; clear hlo hlp hlg hb1)
  clear t1 t2 t3 t4 u2 u4 HLN
  go_wp2_with fail
  have HL0 : Hid (LcO w1 lp lg (S + V) (fun _ _ => False) (keyK S 0)) := by rw [← keyK_zero]; exact HLO
  clear HLO
  go_loopw [35] (fun s35 wr => ∃ v : Nat, v ≤ V ∧ s35 = .int .i64 (v : Int) ∧ LcO wr lp lg (S + V) (fun _ _ => False) (keyK S v) ∧ Below w.heap.size w wr) (fun s35 _ => V - (intOf s35).toNat)
  case atStart => exact ⟨0, Nat.zero_le _, rfl, HL0.out, HB1.out⟩
  case round =>
    obtain ⟨v, hv, rfl, hlo, hbr⟩ := hrel
    have HLO := Lib.hid hlo
    have HBR := Lib.hid hbr
    clear hlo hbr HL0
    by_cases hlt : v < V
    · have t1 : decide ((v : Int) < (V : Int)) = true := decide_eq_true (by omega)
      have t2 : decide (v < V) = true := decide_eq_true hlt
      have hwa : IntKind.i64.wrap ((S : Int) + (v : Int)) = ((S + v : Nat) : Int) := by rw [IntWalk.i64_in _ (by omega)]; omega
      have hwb : IntKind.i64.wrap ((v : Int) + 1) = (v : Int) + 1 := IntWalk.i64_in _ (by omega)
      have HLT := Lib.hid hlt
      have HST : Hid (∃ ed, Calls Tryz.prog 83 #[.pointer (some ⟨lp, 0, none⟩), .int .i64 ((S + v : Nat) : Int), .int .i64 9223372036854775807] wr (LcInt wr lp lg (S + V) (fun _ _ => False) (keyK S (v + 1)) ed (.int .i64 0))) := by
        obtain ⟨N, ed, h1, h2⟩ := HLO.out
        have := lc_set wr lp lg (S + V) (fun _ _ => False) (keyK S v) N ed h1 h2 (S + v) (by omega) 9223372036854775807
        rw [keyK_succ] at this
        exact ⟨ed, this⟩
      obtain ⟨ed, hst⟩ := HST.out
      have HS2 := Lib.hid hst
      clear HST hst hlt
      go_wp2_with (go_at_call 83; refine HS2.out.mono ?_; rintro e w2 ⟨rfl, ⟨N2, ho, hl⟩, hmd⟩; have HO2 : Hid (LcO w2 lp lg (S + V) (fun _ _ => False) (keyK S (v + 1))) := ⟨N2, ed, ho, hl⟩; have HB2 := Lib.hid (HBR.out.trans (hmd.below HBR.out.size (fun x e => by have := HLP.out.2; omega))); clear ho hl hmd)
      go_roundw
      case rel => exact ⟨v + 1, HLT.out, by go_num, HO2.out, HB2.out⟩
      case measure => have := HLT.out; simp [intOf]; omega
    · have t1 : decide ((v : Int) < (V : Int)) = false := decide_eq_false (by omega)
      have t2 : decide (v < V) = false := decide_eq_false hlt
      obtain rfl : v = V := by omega
      have HHN := Lib.hid (new_obj S wr (by omega))
      have HVS : Hid (v ≤ 4096 ∧ S ≤ 16384) := ⟨hV, hS⟩
      clear hlt hv
      have hbz : ∀ W, (Instr.build 111 #[(0, .pointer (some ⟨lp, 0, none⟩))]).run Tryz.prog W = .ok (.agg #[.pointer (some ⟨lp, 0, none⟩)]) W := fun W => by kernel_rfl
      go_upto_region 14 with (go_at_call 81; refine HHN.out.mono ?_; rintro e w2 ⟨hb2, qb, qg, ho, hqf, rfl⟩; have HO := Lib.hid ho; have HQF := Lib.hid hqf; have HB2 := Lib.hid hb2; clear ho hqf hb2)
      clear t1 t2
      have HFIN := Lib.hid (fo_fresh HVS.out.1 HVS.out.2 HBR.out HLO.out HLP.out.1 HLP.out.2 HO.out (fun k hk => Nat.le_trans (Nat.le_refl _) (HQF.out k hk)) HB2.out)
      go_wp2_with fail
      go_ret2
      exact HFIN.out
end Go.Proofs.YtlooaipipmiijaaGreat

namespace Go.Proofs.YtlooaipipmiijaaGreat
set_option linter.unusedVariables false
set_option linter.unusedSimpArgs false
open Go.RowKit
structure FoCy (w : World) (f : FoG) (g : Nat → GE) (L F : Nat → Prop) (e : Ending) (w' : World) : Prop where
  ex : ∃ c f', e = .returned (.pointer (some ⟨c, 0, none⟩)) ∧ FoM w' c f' ∧ FoP f' g L F ∧ f'.V = f.V ∧ f'.S = f.S ∧ f'.Q = f.Q ∧ (∀ k, f'.foot c k → w.heap.size ≤ k) ∧ w.heap.size ≤ c
  bel : Below w.heap.size w w'
structure FpS (w W : World) (c : Nat) (vs : List Value) : Prop where
  box : Blk W c 115 vs
  bel : Below w.heap.size w W
  cc : w.heap.size ≤ c
theorem FpS.up {w W W1 : World} {c : Nat} {vs : List Value} (h : FpS w W c vs) (hb : Below W.heap.size W W1) : FpS w W1 c vs :=
  ⟨h.box.below hb h.box.lt, bel_next h.bel hb, h.cc⟩
theorem FpS.set {w W : World} {c : Nat} {vs : List Value} (h : FpS w W c vs) (j : Nat) (v : Value) : FpS w (W.setCell ⟨c, j, none⟩ v) c (vs.set j v) :=
  ⟨h.box.set j v, h.bel.setCell h.cc v, h.cc⟩
theorem FpS.mod {w W : World} {c : Nat} {vs : List Value} (h : FpS w W c vs) (j : Nat) (v : Value) : Mod (fun x => x = c) W (W.setCell ⟨c, j, none⟩ v) := (Mod.refl (fun x => x = c) W).setCell ⟨c, j, none⟩ (fun _ => rfl) v
theorem FpS.new {w : World} {vs : List Value} : FpS w (w.alloc (.cells vs.toArray 115)) w.heap.size vs := ⟨Blk.new w _ vs, bel_alloc w _, Nat.le_refl _⟩
theorem fo_copied {w W : World} {f : FoG} {g : Nat → GE} {L F : Nat → Prop} {c lp lg qb nm z1 z2 : Nat} {qg : HG} (hp : FoP f g L F) (hb : FpS w W c [.int .i64 (f.V : Int), .int .i64 (f.S : Int), .pointer (some ⟨lp, 0, none⟩), .pointer (some ⟨qb, 0, none⟩), .map (some nm), .int .i64 f.tr])
    (hl : LcO W lp lg (f.S + f.V) f.E f.key) (hq : HObj W qb f.S f.Q qg) (hm : MapK .i64 W Tryz.prog 3 nm f.c f.fm) (h1 : c < lp ∧ lp < z1 ∧ c < lg ∧ lg < z1) (h2 : ∀ k, qg.foot k → z1 ≤ k ∧ k < z2) (h3 : z1 ≤ z2 ∧ z2 ≤ nm) : FoCy w f g L F (.returned (.pointer (some ⟨c, 0, none⟩))) W := by
  have hcc := hb.cc
  obtain ⟨f', hf'⟩ : ∃ f' : FoG, f' = ⟨f.V, f.S, lp, lg, qb, nm, f.c, f.Q, qg, f.E, f.key, f.fm, f.tr, fun k => if k = c then 0 else if k < z1 then 1 else if k < z2 then 2 else 3⟩ := ⟨_, rfl⟩
  refine ⟨⟨c, f', rfl, ?_, ?_, by rw [hf'], by rw [hf'], by rw [hf'], ?_, hcc⟩, hb.bel⟩
  · refine ⟨by rw [hf']; exact hb.box, by rw [hf']; exact hl, by rw [hf']; exact hq, by rw [hf']; exact hm, by rw [hf']; exact if_pos rfl, ?_, fun k hk => ?_, ?_⟩
    · rw [hf']
      show (if lp = c then 0 else if lp < z1 then 1 else if lp < z2 then 2 else 3) = 1 ∧ (if lg = c then 0 else if lg < z1 then 1 else if lg < z2 then 2 else 3) = 1
      rw [if_neg (by omega), if_pos (by omega), if_neg (by omega), if_pos (by omega)]
      exact ⟨rfl, rfl⟩
    · rw [hf'] at hk ⊢
      have := h2 k hk
      show (if k = c then 0 else if k < z1 then 1 else if k < z2 then 2 else 3) = 2
      rw [if_neg (by omega), if_neg (by omega), if_pos (by omega)]
    · rw [hf']
      show (if nm = c then 0 else if nm < z1 then 1 else if nm < z2 then 2 else 3) = 3
      rw [if_neg (by omega), if_neg (by omega), if_neg (by omega)]
  · rw [hf']
    exact ⟨⟨hp.ls, hp.FL, hp.eE, hp.ke, hp.kv, hp.fm, hp.que, hp.tr, hp.c, hp.sz⟩, hp.span⟩
  · rw [hf']
    rintro k (e | e | e | e | e)
    · omega
    · have e' : k = lp := e
      omega
    · have e' : k = lg := e
      omega
    · have := h2 k e; omega
    · have e' : k = nm := e
      omega
set_option maxHeartbeats 2000000 in
set_option maxRecDepth 100000 in
theorem fo_copy (w : World) (b : Nat) (f : FoG) (g : Nat → GE) (L F : Nat → Prop) (h : FoM w b f) (hp : FoP f g L F) : Calls Tryz.prog 31 #[.pointer (some ⟨b, 0, none⟩)] w (FoCy w f g L F) := by
  have HP := Lib.hid hp
  have H := Lib.hid h
  have HV := Lib.hid (fo_valid b f.mb w h.s4)
  have HP0 := Lib.hid (FpS.new (w := w) (vs := [.int .i64 (f.V : Int), .int .i64 (f.S : Int), .pointer (some ⟨f.lp, 0, none⟩), .pointer (some ⟨f.qb, 0, none⟩), .map (some f.mb), .int .i64 f.tr]))
  have c0 := h.s0
  have c1 := h.s1
  have c2 := h.s2
  have c3 := h.s3
  have c4 := h.s4
  have c5 := h.s5
  clear h hp
  go_enter Tryz.func31, Tryz.ntmps31
  go_upto_region 4 with (go_at_call 55; refine HV.out.mono ?_; rintro e w' ⟨rfl, rfl⟩)
  clear c0 c1 c2 c3 c4 c5 HV
  have HB0 := Lib.hid HP0.out.bel
  have HS0 : Hid ((w.alloc (.cells #[.int .i64 (f.V : Int), .int .i64 (f.S : Int), .pointer (some ⟨f.lp, 0, none⟩), .pointer (some ⟨f.qb, 0, none⟩), .map (some f.mb), .int .i64 f.tr] 115)).heap.size = w.heap.size + 1) := by show _ = _; simp
  generalize hW0 : w.alloc (.cells #[.int .i64 (f.V : Int), .int .i64 (f.S : Int), .pointer (some ⟨f.lp, 0, none⟩), .pointer (some ⟨f.qb, 0, none⟩), .map (some f.mb), .int .i64 f.tr] 115) = W0 at *
  generalize hcc : w.heap.size = c at *
  clear hW0
  have H0 := Lib.hid (H.out.below (by rw [hcc]; exact HB0.out))
  have c2 := H0.out.s2
  have HLC := Lib.hid (lc_copy W0 f.lp f.lg (f.S + f.V) f.E f.key H0.out.lct)
  have hbz : ∀ lp W, (Instr.build 111 #[(0, .pointer (some ⟨lp, 0, none⟩))]).run Tryz.prog W = .ok (.agg #[.pointer (some ⟨lp, 0, none⟩)]) W := fun lp W => by kernel_rfl
  go_upto_region 5 with (go_at_call 71; refine HLC.out.mono ?_; rintro e w1 ⟨⟨lp, lg, rfl, hlo, hlp, hlg⟩, hb⟩; have HP1 := Lib.hid (HP0.out.up hb); have HLO := Lib.hid hlo; have HLB : Hid (W0.heap.size ≤ lp ∧ W0.heap.size ≤ lg) := ⟨hlp, hlg⟩; have HB1 := Lib.hid hb; have d2 := HP1.out.box.cell (i := 2) rfl; have f2 := HP1.out.box.free 2; clear hlo hlp hlg hb)
  clear c2 d2 f2
  have HP2 : Hid (FpS w (w1.setCell ⟨c, 2, none⟩ (.pointer (some ⟨lp, 0, none⟩))) c [.int .i64 (f.V : Int), .int .i64 (f.S : Int), .pointer (some ⟨lp, 0, none⟩), .pointer (some ⟨f.qb, 0, none⟩), .map (some f.mb), .int .i64 f.tr]) := Lib.hid (HP1.out.set 2 _)
  have HM1 := Lib.hid (HP1.out.mod 2 (.pointer (some ⟨lp, 0, none⟩)))
  have HL2 := Lib.hid (HLO.out.mod HM1.out (by have := HS0.out; have := HLB.out; omega) (by have := HS0.out; have := HLB.out; omega))
  have HZ1 : Hid (c < lp ∧ lp < w1.heap.size ∧ c < lg ∧ lg < w1.heap.size) := by show _ ∧ _; have := HS0.out; have := HLB.out; have := HLO.out.lt; omega
  have HS2 : Hid ((w1.setCell ⟨c, 2, none⟩ (.pointer (some ⟨lp, 0, none⟩))).heap.size = w1.heap.size) := World.size_setCell _ _ _
  generalize hW2 : w1.setCell ⟨c, 2, none⟩ (.pointer (some ⟨lp, 0, none⟩)) = W2 at *
  generalize hz1 : w1.heap.size = z1 at *
  clear hW2 HM1 HP1 HB1 HLO HLC HP0 HB0 H0 HS0 HLB
  have H2 := Lib.hid (H.out.below (by rw [hcc]; have := HP2.out.bel; rwa [hcc] at this))
  have c3 := H2.out.s3
  have HQC := Lib.hid (copy_ok W2 f.qb f.S f.Q f.qg H2.out.que)
  go_upto_region 6 with (go_at_call 70; refine HQC.out.mono ?_; rintro e w3 ⟨hb, qb, qg, ho, hqf, rfl⟩; have HP3 := Lib.hid (HP2.out.up hb); have HO := Lib.hid ho; have HQF := Lib.hid hqf; have HB3 := Lib.hid hb; have d3 := HP3.out.box.cell (i := 3) rfl; have f3 := HP3.out.box.free 3; clear ho hqf hb)
  clear c3 d3 f3
  have HP4 : Hid (FpS w (w3.setCell ⟨c, 3, none⟩ (.pointer (some ⟨qb, 0, none⟩))) c [.int .i64 (f.V : Int), .int .i64 (f.S : Int), .pointer (some ⟨lp, 0, none⟩), .pointer (some ⟨qb, 0, none⟩), .map (some f.mb), .int .i64 f.tr]) := Lib.hid (HP3.out.set 3 _)
  have HM3 := Lib.hid (HP3.out.mod 3 (.pointer (some ⟨qb, 0, none⟩)))
  have HL4 := Lib.hid ((HL2.out.below HB3.out).mod HM3.out (by have := HZ1.out; omega) (by have := HZ1.out; omega))
  have HQ4 := Lib.hid (HO.out.mod HM3.out (fun k hk => by have := HQF.out k hk; have := HS2.out; have := HZ1.out; omega))
  have HQ5 : Hid (∀ k, qg.foot k → z1 ≤ k ∧ k < w3.heap.size) := by
    show ∀ k, _
    intro k hk
    have := HQF.out k hk
    have := HS2.out
    exact ⟨by omega, HO.out.rep.foot_lt k hk⟩
  have HZ3 : Hid (z1 ≤ w3.heap.size) := by show _ ≤ _; have := HS2.out; have := HB3.out.size; omega
  have HS4 : Hid ((w3.setCell ⟨c, 3, none⟩ (.pointer (some ⟨qb, 0, none⟩))).heap.size = w3.heap.size) := World.size_setCell _ _ _
  generalize hW4 : w3.setCell ⟨c, 3, none⟩ (.pointer (some ⟨qb, 0, none⟩)) = W4 at *
  generalize hz3 : w3.heap.size = z3 at *
  clear hW4 HM3 HP3 HB3 HO HQF HQC HP2 H2 HS2 HL2
  have H4 := Lib.hid (H.out.below (by rw [hcc]; have := HP4.out.bel; rwa [hcc] at this))
  have c4 := H4.out.s4
  have HMC := Lib.hid (clone_edg H4.out.map)
  go_upto_region 7 with (go_at_call 72; refine HMC.out.mono ?_; rintro e w5 ⟨rfl, hmk, hb⟩; have HP5 := Lib.hid (HP4.out.up hb); have HMK := Lib.hid hmk; have HB5 := Lib.hid hb; have d4 := HP5.out.box.cell (i := 4) rfl; have f4 := HP5.out.box.free 4; clear hmk hb)
  clear c4 d4 f4
  have HB5' := HB5
  have HNM := HS4
  generalize hnm : W4.heap.size = nm at *
  have HB6 : Hid (Below W4.heap.size W4 w5) := by show Below _ _ _; rw [hnm]; exact HB5'.out
  have HP6 : Hid (FpS w (w5.setCell ⟨c, 4, none⟩ (.map (some nm))) c [.int .i64 (f.V : Int), .int .i64 (f.S : Int), .pointer (some ⟨lp, 0, none⟩), .pointer (some ⟨qb, 0, none⟩), .map (some nm), .int .i64 f.tr]) := Lib.hid (HP5.out.set 4 _)
  have HM5 := Lib.hid (HP5.out.mod 4 (.map (some nm)))
  have HL6 := Lib.hid ((HL4.out.below HB6.out).mod HM5.out (by have := HZ1.out; omega) (by have := HZ1.out; omega))
  have HQ6 := Lib.hid ((HQ4.out.below HB6.out).mod HM5.out (fun k hk => by have := HQ5.out k hk; have := HZ1.out; omega))
  have HK6 := Lib.hid (HMK.out.mod HM5.out (by have := HNM.out; have := HZ1.out; have := HZ3.out; omega))
  have HFIN := Lib.hid (fo_copied HP.out HP6.out HL6.out HQ6.out HK6.out HZ1.out HQ5.out ⟨HZ3.out, by have := HNM.out; omega⟩)
  go_wp2_with fail
  go_ret
  exact HFIN.out
end Go.Proofs.YtlooaipipmiijaaGreat

namespace Go.Proofs.YtlooaipipmiijaaGreat
set_option linter.unusedVariables false
set_option linter.unusedSimpArgs false
open Go.RowKit
theorem cs2_keep {w w' : World} {a b : Addr} {v1 v2 : Value} (h1 : Hid (w.cell? a = some v1)) (h2 : Hid (w.cell? b = some v2)) (hb : Below w.heap.size w w') :
    w'.cell? a = some v1 ∧ w'.cell? b = some v2 ∧ Below w.heap.size w w' :=
  ⟨(hb.cell (World.block_lt_of_cell? w _ h1.out)).trans h1.out, (hb.cell (World.block_lt_of_cell? w _ h2.out)).trans h2.out, hb⟩
theorem cp_bel {w W w1 : World} (h1 : Below w.heap.size w W) (h2 : Below W.heap.size W w1) : Below w.heap.size w w1 := h1.trans (h2.mono h1.size)
structure ECopied (w : World) (slots : Nat) (S : List Ent) (e : Ending) (w' : World) : Prop where
  out : ∃ s q g, EFresh w s slots S q g w' ∧ e = .returned (.pointer (some ⟨s, 0, none⟩))
set_option maxHeartbeats 1000000 in
set_option maxRecDepth 100000 in
theorem ecopy_ok (w : World) (s slots : Nat) (S : List Ent) (q : Nat) (g : HG) (h : EObj w s slots S q g) :
    Calls Tryz.prog 30 #[.pointer (some ⟨s, 0, none⟩)] w (ECopied w slots S) := by
  have c0 := h.blk.cell (i := 0) rfl
  have c1 := h.blk.cell (i := 1) rfl
  have HO0 := Lib.hid h.obj
  have C0 := Lib.hid c0
  have C1 := Lib.hid c1
  clear h
  go_enter Tryz.func30, Tryz.ntmps30
  go_wp2_with (go_at_call 53; refine (evalid_ok s q w c1).mono ?_; rintro e w' ⟨rfl, rfl⟩)
  go_region_held3 (fun w' => w'.cell? ⟨s, 0, none⟩ = some (.int .i64 (slots : Nat)) ∧ w'.cell? ⟨s, 1, none⟩ = some (.pointer (some ⟨q, 0, none⟩)) ∧ Below w.heap.size w w')
    (((try go_split_ands); refine cs2_keep C0 C1 ?_; first | assumption | exact (Below.refl _ _).drew | exact (Below.drew (by assumption)) | exact (Below.alloc (by assumption) (Below.size (by assumption)) _)))
    (first | (go_at_call 70; (try go_split_ands); refine (copy_ok _ q slots S g ?_).mono ?_; (exact HO0.out.below (by assumption)); rintro e w3 ⟨hb3, c, g', ho, hf, rfl⟩; have hbx := cp_bel (by assumption) hb3; have HX := Lib.hid ho; have HF := Lib.hid hf; have HB3 := Lib.hid hb3; clear ho hf hb3))
  have FIN : Hid (EFresh w w3.heap.size slots S c g' (w3.alloc (.cells #[.int .i64 (slots : Nat), .pointer (some ⟨c, 0, none⟩)] 137))) := by
    refine ⟨⟨Blk.new w3 _ [_, _], HX.out.below ((Below.refl _ _).alloc (Nat.le_refl _) _), fun hh => ?_⟩, hbx.alloc hbx.size _, fun k hk => HF.out k hk, hbx.size⟩
    have := HX.out.rep.foot_lt _ hh; omega
  clear HX HF HB3
  go_wp2_with fail
  go_ret
  exact ⟨_, _, _, FIN.out, rfl⟩
end Go.Proofs.YtlooaipipmiijaaGreat

namespace Go.Proofs.YtlooaipipmiijaaGreat
set_option linter.unusedVariables false
set_option linter.unusedSimpArgs false
open Go.RowKit
structure WnG where
  W : Int
  E : Nat
  V : Nat
  D : Int
  now : Int
  cp : Nat
  sp : Nat
  ep : Nat
  qp : Nat
  fp : Nat
  g : SG
  Q : List Ent
  qg : HG
  f : FoG
  add : Nat
  exp : Nat
  col : Nat → Nat
structure WnM (w : World) (b : Nat) (G : WnG) : Prop where
  box : Blk w b 56 [.int .i64 G.W, .int .i64 (G.E : Int), .int .i64 (G.V : Int), .int .i64 G.D, .pointer (some ⟨G.cp, 0, none⟩), .pointer (some ⟨G.sp, 0, none⟩), .pointer (some ⟨G.ep, 0, none⟩), .pointer (some ⟨G.fp, 0, none⟩), .int .u64 (G.add : Int), .int .u64 (G.exp : Int)]
  clk : ClkO w G.cp G.W G.now
  sto : StM w G.sp G.g
  sch : EObj w G.ep G.E G.Q G.qp G.qg
  fo : FoM w G.fp G.f
  k0 : G.col b = 0
  k1 : G.col G.cp = 1
  k2 : ∀ k, G.g.foot G.sp k → k < w.heap.size ∧ G.col k = 2
  k3 : ∀ k, (k = G.ep ∨ G.qg.foot k) → G.col k = 3
  k4 : ∀ k, G.f.foot G.fp k → G.col k = 4
def WnG.foot (G : WnG) (b k : Nat) : Prop := k = b ∨ k = G.cp ∨ G.g.foot G.sp k ∨ (k = G.ep ∨ G.qg.foot k) ∨ G.f.foot G.fp k
section
variable {w w' : World} {b : Nat} {G : WnG}
theorem WnM.foot_lt (h : WnM w b G) : ∀ k, G.foot b k → k < w.heap.size := by
  rintro k (rfl | rfl | e | e | e)
  · exact h.box.lt
  · exact h.clk.box.lt
  · exact (h.k2 k e).1
  · exact h.sch.lt k e.symm
  · exact h.fo.foot_lt k e
theorem WnM.c0 (h : WnM w b G) : w.cell? ⟨b, 0, none⟩ = some (.int .i64 G.W) := h.box.cell (i := 0) rfl
theorem WnM.c1 (h : WnM w b G) : w.cell? ⟨b, 1, none⟩ = some (.int .i64 (G.E : Int)) := h.box.cell (i := 1) rfl
theorem WnM.c2 (h : WnM w b G) : w.cell? ⟨b, 2, none⟩ = some (.int .i64 (G.V : Int)) := h.box.cell (i := 2) rfl
theorem WnM.c3 (h : WnM w b G) : w.cell? ⟨b, 3, none⟩ = some (.int .i64 G.D) := h.box.cell (i := 3) rfl
theorem WnM.c4 (h : WnM w b G) : w.cell? ⟨b, 4, none⟩ = some (.pointer (some ⟨G.cp, 0, none⟩)) := h.box.cell (i := 4) rfl
theorem WnM.c5 (h : WnM w b G) : w.cell? ⟨b, 5, none⟩ = some (.pointer (some ⟨G.sp, 0, none⟩)) := h.box.cell (i := 5) rfl
theorem WnM.c6 (h : WnM w b G) : w.cell? ⟨b, 6, none⟩ = some (.pointer (some ⟨G.ep, 0, none⟩)) := h.box.cell (i := 6) rfl
theorem WnM.c7 (h : WnM w b G) : w.cell? ⟨b, 7, none⟩ = some (.pointer (some ⟨G.fp, 0, none⟩)) := h.box.cell (i := 7) rfl
theorem WnM.c8 (h : WnM w b G) : w.cell? ⟨b, 8, none⟩ = some (.int .u64 (G.add : Int)) := h.box.cell (i := 8) rfl
theorem WnM.c9 (h : WnM w b G) : w.cell? ⟨b, 9, none⟩ = some (.int .u64 (G.exp : Int)) := h.box.cell (i := 9) rfl
theorem WnM.below (h : WnM w b G) (m : Below w.heap.size w w') : WnM w' b G :=
  ⟨h.box.below m h.box.lt, h.clk.below m, h.sto.below m, h.sch.below m, h.fo.below m, h.k0, h.k1, fun k hk => ⟨Nat.lt_of_lt_of_le (h.k2 k hk).1 m.size, (h.k2 k hk).2⟩, h.k3, h.k4⟩
theorem WnM.mod {M : Nat → Prop} (h : WnM w b G) (m : Mod M w w') (hF : ∀ k, G.foot b k → ¬ M k) : WnM w' b G :=
  ⟨h.box.mod m (hF _ (.inl rfl)), h.clk.mod m (hF _ (.inr (.inl rfl))), h.sto.mod m (fun k hk => hF k (.inr (.inr (.inl hk)))), h.sch.mod m (fun k hk => hF k (.inr (.inr (.inr (.inl (.inr hk)))))) (hF _ (.inr (.inr (.inr (.inl (.inl rfl)))))), h.fo.mod m (fun k hk => hF k (.inr (.inr (.inr (.inr hk))))), h.k0, h.k1, fun k hk => ⟨Nat.lt_of_lt_of_le (h.k2 k hk).1 m.size, (h.k2 k hk).2⟩, h.k3, h.k4⟩
structure WnS (b : Nat) (G : WnG) (w : World) (G' : WnG) (w' : World) : Prop where
  mem : WnM w' b G'
  mod : Mod (G.foot b) w w'
  ft : ∀ k, G'.foot b k → G.foot b k ∨ w.heap.size ≤ k
theorem WnS.refl (h : WnM w b G) : WnS b G w G w := ⟨h, Mod.refl _ _, fun _ h => .inl h⟩
theorem WnS.trans {G1 G2 : WnG} {w1 w2 : World} (h : WnS b G w G1 w1) (k : WnS b G1 w1 G2 w2) : WnS b G w G2 w2 := by
  have hs := h.mod.size
  refine ⟨k.mem, h.mod.trans k.mod fun x hx hf => ?_, fun x hx => ?_⟩
  · rcases h.ft x hf with a | a
    · exact a
    · omega
  · rcases k.ft x hx with a | a
    · exact h.ft x a
    · exact .inr (by omega)
theorem WnS.below {G1 : WnG} {w1 w2 : World} (h : WnS b G w G1 w1) (k : Below w1.heap.size w1 w2) : WnS b G w G1 w2 :=
  ⟨h.mem.below k, h.mod.trans (Mod.of_below (F := fun _ => False) k) (fun _ _ e => e.elim), h.ft⟩
theorem WnS.box {G1 : WnG} {w1 : World} (h : WnS b G w G1 w1) {x : Nat} {T : TypeId} {cs : List Value} (hb : Blk w x T cs) (hn : ¬ G.foot b x) : Blk w1 x T cs ∧ ¬ G1.foot b x :=
  ⟨hb.mod h.mod hn, fun e => by
    have := hb.lt
    rcases h.ft x e with a | a
    · exact hn a
    · omega⟩
theorem WnM.sClk (h : WnM w b G) {now' : Int} (m : Mod (fun x => x = G.cp) w w') (ho : ClkO w' G.cp G.W now') : WnS b G w { G with now := now' } w' := by
  have nb : ∀ k, G.col k ≠ 1 → ¬ k = G.cp := fun k hk e => hk (by rw [e]; exact h.k1)
  exact ⟨⟨h.box.mod m (nb b (by rw [h.k0]; decide)), ho, h.sto.mod m (fun k hk => nb k (by rw [(h.k2 k hk).2]; decide)), h.sch.mod m (fun k hk => nb k (by rw [h.k3 k (.inr hk)]; decide)) (nb _ (by rw [h.k3 _ (.inl rfl)]; decide)), h.fo.mod m (fun k hk => nb k (by rw [h.k4 k hk]; decide)), h.k0, h.k1, fun k hk => ⟨Nat.lt_of_lt_of_le (h.k2 k hk).1 m.size, (h.k2 k hk).2⟩, h.k3, h.k4⟩,
    m.wide (fun k e => .inr (.inl e)), fun k e => .inl e⟩
theorem SG.tight_foot {g : SG} {sp : Nat} {w : World} (h : StM w sp g) : ∀ k, ({ g with FA := fun k => g.FA k ∧ k < w.heap.size, FT := fun k => g.FT k ∧ k < w.heap.size } : SG).foot sp k → k < w.heap.size ∧ g.foot sp k := by
  rintro k (e | e | e | e | e | ⟨id, h1, e⟩)
  · exact ⟨by rw [e]; exact h.box.lt, .inl e⟩
  · exact ⟨e.2, .inr (.inl e.1)⟩
  · exact ⟨e.2, .inr (.inr (.inl e.1))⟩
  · exact ⟨(h.row.lt k e).2, .inr (.inr (.inr (.inl e)))⟩
  · exact ⟨by rw [show k = g.mb from e]; exact h.map.lt, .inr (.inr (.inr (.inr (.inl e))))⟩
  · exact ⟨by rw [← show g.gb id = k from e]; exact h.gbl h1, .inr (.inr (.inr (.inr (.inr ⟨id, h1, e⟩))))⟩
theorem WnM.sSto (h : WnM w b G) {g' : SG} (s : StS G.sp G.g w g' w') : WnS b G w { G with g := { g' with FA := fun k => g'.FA k ∧ k < w'.heap.size, FT := fun k => g'.FT k ∧ k < w'.heap.size }, col := reco w G.col 2 } w' := by
  have m := s.mod
  have nb : ∀ k, G.col k ≠ 2 → ¬ G.g.foot G.sp k := fun k hk e => hk (h.k2 k e).2
  have fl := h.foot_lt
  have tf := SG.tight_foot s.mem
  refine ⟨⟨h.box.mod m (nb b (by rw [h.k0]; decide)), h.clk.mod m (nb _ (by rw [h.k1]; decide)), s.mem.tight, h.sch.mod m (fun k hk => nb k (by rw [h.k3 k (.inr hk)]; decide)) (nb _ (by rw [h.k3 _ (.inl rfl)]; decide)), h.fo.mod m (fun k hk => nb k (by rw [h.k4 k hk]; decide)),
    (reco_lt h.box.lt).trans h.k0, (reco_lt h.clk.box.lt).trans h.k1, fun k hk => ⟨(tf k hk).1, ?_⟩, fun k hk => (reco_lt (fl k (.inr (.inr (.inr (.inl hk)))))).trans (h.k3 k hk), fun k hk => (reco_lt (h.fo.foot_lt k hk)).trans (h.k4 k hk)⟩,
    m.wide (fun k e => .inr (.inr (.inl e))), fun k e => ?_⟩
  · rcases s.ft k (tf k hk).2 with e | e
    · exact (reco_lt (h.k2 k e).1).trans (h.k2 k e).2
    · exact reco_ge e
  · rcases e with e | e | e | e | e
    · exact .inl (.inl e)
    · exact .inl (.inr (.inl e))
    · exact (s.ft k (tf k e).2).imp (fun e => .inr (.inr (.inl e))) id
    · exact .inl (.inr (.inr (.inr (.inl e))))
    · exact .inl (.inr (.inr (.inr (.inr e))))
theorem WnM.sSch (h : WnM w b G) {Q' : List Ent} {qg' : HG} (m : Mod G.qg.foot w w') (ho : EObj w' G.ep G.E Q' G.qp qg') (hf : ∀ k, qg'.foot k → G.qg.foot k ∨ w.heap.size ≤ k) : WnS b G w { G with Q := Q', qg := qg', col := reco w G.col 3 } w' := by
  have nb : ∀ k, G.col k ≠ 3 → ¬ G.qg.foot k := fun k hk e => hk (h.k3 k (.inr e))
  refine ⟨⟨h.box.mod m (nb b (by rw [h.k0]; decide)), h.clk.mod m (nb _ (by rw [h.k1]; decide)), h.sto.mod m (fun k hk => nb k (by rw [(h.k2 k hk).2]; decide)), ho, h.fo.mod m (fun k hk => nb k (by rw [h.k4 k hk]; decide)),
    (reco_lt h.box.lt).trans h.k0, (reco_lt h.clk.box.lt).trans h.k1, fun k hk => ⟨Nat.lt_of_lt_of_le (h.k2 k hk).1 m.size, (reco_lt (h.k2 k hk).1).trans (h.k2 k hk).2⟩, fun k hk => ?_, fun k hk => (reco_lt (h.fo.foot_lt k hk)).trans (h.k4 k hk)⟩,
    m.wide (fun k e => .inr (.inr (.inr (.inl (.inr e))))), fun k e => ?_⟩
  · have old : ∀ k, (k = G.ep ∨ G.qg.foot k) → reco w G.col 3 k = 3 := fun k e => (reco_lt (h.foot_lt k (.inr (.inr (.inr (.inl e)))))).trans (h.k3 k e)
    rcases hk with e | e
    · exact old k (.inl e)
    · rcases hf k e with e | e
      · exact old k (.inr e)
      · exact reco_ge e
  · rcases e with e | e | e | (e | e) | e
    · exact .inl (.inl e)
    · exact .inl (.inr (.inl e))
    · exact .inl (.inr (.inr (.inl e)))
    · exact .inl (.inr (.inr (.inr (.inl (.inl e)))))
    · exact (hf k e).imp (fun e => .inr (.inr (.inr (.inl (.inr e))))) id
    · exact .inl (.inr (.inr (.inr (.inr e))))
theorem WnM.sFo (h : WnM w b G) {f' : FoG} (s : FoS G.fp G.f w f' w') : WnS b G w { G with f := f', col := reco w G.col 4 } w' := by
  have m := s.mod
  have nb : ∀ k, G.col k ≠ 4 → ¬ G.f.foot G.fp k := fun k hk e => hk (h.k4 k e)
  refine ⟨⟨h.box.mod m (nb b (by rw [h.k0]; decide)), h.clk.mod m (nb _ (by rw [h.k1]; decide)), h.sto.mod m (fun k hk => nb k (by rw [(h.k2 k hk).2]; decide)), h.sch.mod m (fun k hk => nb k (by rw [h.k3 k (.inr hk)]; decide)) (nb _ (by rw [h.k3 _ (.inl rfl)]; decide)), s.mem,
    (reco_lt h.box.lt).trans h.k0, (reco_lt h.clk.box.lt).trans h.k1, fun k hk => ⟨Nat.lt_of_lt_of_le (h.k2 k hk).1 m.size, (reco_lt (h.k2 k hk).1).trans (h.k2 k hk).2⟩, fun k hk => (reco_lt (h.foot_lt k (.inr (.inr (.inr (.inl hk)))))).trans (h.k3 k hk), fun k hk => ?_⟩,
    m.wide (fun k e => .inr (.inr (.inr (.inr e)))), fun k e => ?_⟩
  · rcases s.ft k hk with e | e
    · exact (reco_lt (h.fo.foot_lt k e)).trans (h.k4 k e)
    · exact reco_ge e
  · rcases e with e | e | e | e | e
    · exact .inl (.inl e)
    · exact .inl (.inr (.inl e))
    · exact .inl (.inr (.inr (.inl e)))
    · exact .inl (.inr (.inr (.inr (.inl e))))
    · exact (s.ft k e).imp (fun e => .inr (.inr (.inr (.inr e)))) id
theorem WnM.boxMod (h : WnM w b G) {j : Nat} {v : Value} : Mod (fun x => x = b) w (w.setCell ⟨b, j, none⟩ v) := (Mod.refl (fun x => x = b) w).setCell ⟨b, j, none⟩ (fun _ => rfl) v
theorem WnM.sAdd (h : WnM w b G) (n : Nat) : WnS b G w { G with add := n } (w.setCell ⟨b, 8, none⟩ (.int .u64 (n : Int))) := by
  have m := h.boxMod (j := 8) (v := .int .u64 (n : Int))
  have nb : ∀ k, G.col k ≠ 0 → ¬ k = b := fun k hk e => hk (by rw [e]; exact h.k0)
  exact ⟨⟨h.box.set 8 _, h.clk.mod m (nb _ (by rw [h.k1]; decide)), h.sto.mod m (fun k hk => nb k (by rw [(h.k2 k hk).2]; decide)), h.sch.mod m (fun k hk => nb k (by rw [h.k3 k (.inr hk)]; decide)) (nb _ (by rw [h.k3 _ (.inl rfl)]; decide)), h.fo.mod m (fun k hk => nb k (by rw [h.k4 k hk]; decide)), h.k0, h.k1, fun k hk => ⟨Nat.lt_of_lt_of_le (h.k2 k hk).1 m.size, (h.k2 k hk).2⟩, h.k3, h.k4⟩,
    m.wide (fun k e => .inl e), fun k e => .inl e⟩
theorem WnM.sExp (h : WnM w b G) (n : Nat) : WnS b G w { G with exp := n } (w.setCell ⟨b, 9, none⟩ (.int .u64 (n : Int))) := by
  have m := h.boxMod (j := 9) (v := .int .u64 (n : Int))
  have nb : ∀ k, G.col k ≠ 0 → ¬ k = b := fun k hk e => hk (by rw [e]; exact h.k0)
  exact ⟨⟨h.box.set 9 _, h.clk.mod m (nb _ (by rw [h.k1]; decide)), h.sto.mod m (fun k hk => nb k (by rw [(h.k2 k hk).2]; decide)), h.sch.mod m (fun k hk => nb k (by rw [h.k3 k (.inr hk)]; decide)) (nb _ (by rw [h.k3 _ (.inl rfl)]; decide)), h.fo.mod m (fun k hk => nb k (by rw [h.k4 k hk]; decide)), h.k0, h.k1, fun k hk => ⟨Nat.lt_of_lt_of_le (h.k2 k hk).1 m.size, (h.k2 k hk).2⟩, h.k3, h.k4⟩,
    m.wide (fun k e => .inl e), fun k e => .inl e⟩
end
theorem Tryz.neqClk (w : World) (a : Addr) : (binOp .neq 51 (.pointer (some a)) (.pointer none)).run Tryz.prog w = .ok (.bool true) w := by kernel_rfl
set_option maxHeartbeats 400000 in
theorem wn_valid (b cp : Nat) (w : World) (h4 : w.cell? ⟨b, 4, none⟩ = some (.pointer (some ⟨cp, 0, none⟩))) :
    Calls Tryz.prog 18 #[.pointer (some ⟨b, 0, none⟩)] w (Ret (.bool true) w) := by
  go_enter Tryz.func18, Tryz.ntmps18
  go_wp2
  go_ret
  exact ⟨rfl, rfl⟩
set_option maxHeartbeats 400000 in
theorem wn_now (w : World) (b : Nat) (G : WnG) (h : WnM w b G) :
    Calls Tryz.prog 12 #[.pointer (some ⟨b, 0, none⟩)] w (Ret (.int .i64 G.now) w) := by
  have HV := Lib.hid (wn_valid b G.cp w h.c4)
  have HN := Lib.hid (clk_now w G.cp G.W G.now h.clk)
  have c4 := h.c4
  clear h
  go_enter Tryz.func12, Tryz.ntmps12
  go_wp2_with (first | (go_at_call 18; refine HV.out.mono ?_; rintro e w' ⟨rfl, rfl⟩) | (go_at_call 32; refine HN.out.mono ?_; rintro e w' ⟨rfl, rfl⟩))
  go_ret
  exact ⟨rfl, rfl⟩
end Go.Proofs.YtlooaipipmiijaaGreat

namespace Go.Proofs.YtlooaipipmiijaaGreat
set_option linter.unusedVariables false
set_option linter.unusedSimpArgs false
def isDue (now : Int) (e : Ent) : Bool := decide (e.2 ≤ now)
theorem due_filter {S : List Ent} (hs : Sorted S) (now : Int) : S.takeWhile (isDue now) = S.filter (isDue now) ∧ S.dropWhile (isDue now) = S.filter (fun e => !isDue now e) := by
  induction S with
  | nil => exact ⟨rfl, rfl⟩
  | cons x l ih =>
    obtain ⟨hx, hl⟩ := List.pairwise_cons.1 hs
    obtain ⟨i1, i2⟩ := ih hl
    by_cases h : isDue now x = true
    · simp [List.takeWhile_cons, List.dropWhile_cons, h, i1, i2]
    · have hall : ∀ y ∈ l, ¬ isDue now y = true := fun y hy => by
        have := hx y hy
        simp only [isDue, decide_eq_true_eq] at h ⊢
        unfold elt at this
        omega
      have f1 : l.filter (isDue now) = [] := List.filter_eq_nil_iff.2 hall
      have f2 : l.filter (fun e => !isDue now e) = l := List.filter_eq_self.2 fun y hy => by simp [hall y hy]
      simp [List.takeWhile_cons, List.dropWhile_cons, h, f1, f2]
end Go.Proofs.YtlooaipipmiijaaGreat
