/- Several texts in one: TpV, TpW, TpQ. -/
import Derived.Test.YtlooaipipmiijaaGreatZX39
namespace Go.Proofs.YtlooaipipmiijaaGreat
set_option linter.unusedVariables false
set_option linter.unusedSimpArgs false
open Go.RowKit
structure RcB (w : World) (v : Value) (o : List Rcd) (W : World) : Prop where
  own : W.ownsRow 0 33 4 v o.length (rcV o)
  new : ∀ q, v.ownBlock = some q → w.heap.size ≤ q
  bel : Below w.heap.size w W
theorem RcB.nil (w : World) : RcB w (.slice none 0 0) [] w := ⟨World.ownsRow_nil _ _ _ _, fun q e => by simp [Value.ownBlock] at e, Below.refl _ _⟩
theorem RcB.app {w W w5 : World} {ao ao2 : Option Addr} {cp cp2 : Nat} {o : List Rcd} {x : Rcd} {T : TypeId} (h : RcB w (.slice ao o.length cp) o W) (ho : w5.ownsRow 0 33 4 (.slice ao2 (o.length + 1) cp2) (o.length + 1) (rcV o ++ encC x)) (hg : (W.alloc (.cells (encC x).toArray T)).grownBy w5 (Value.slice ao o.length cp).ownBlock) (hk : ∀ k, (Value.slice ao2 (o.length + 1) cp2).ownBlock = some k → (Value.slice ao o.length cp).ownBlock = some k ∨ (W.alloc (.cells (encC x).toArray T)).heap.size ≤ k) : RcB w (.slice ao2 (o ++ [x]).length cp2) (o ++ [x]) w5 := by
  have e1 : (o ++ [x]).length = o.length + 1 := by simp
  have hs := h.bel.size
  refine ⟨?_, fun q e => ?_, ?_⟩
  · rw [e1, rcV_snoc]; exact ho
  · rw [e1] at e
    rcases hk q e with c | c
    · exact h.new q c
    · rw [World.alloc, Array.size_push] at c
      omega
  · exact (h.bel.alloc hs (.cells (encC x).toArray T)).grown hg (by rw [World.alloc, Array.size_push]; omega) fun q e => h.new q e
theorem RcB.slice {w W : World} {v : Value} {o : List Rcd} (h : RcB w v o W) : ∃ ao cp, v = .slice ao o.length cp := by
  rcases h.own.2 with ⟨rfl, h0⟩ | ⟨g, cap, cur, rfl, _⟩
  · exact ⟨none, 0, by rw [h0]⟩
  · exact ⟨_, _, rfl⟩
theorem RcB.after {w0 w W : World} {v : Value} {o : List Rcd} (h : RcB w v o W) (hb : Below w0.heap.size w0 w) : RcB w0 v o W := ⟨h.own, fun q e => Nat.le_trans hb.size (h.new q e), hb.trans (h.bel.mono hb.size)⟩
theorem RcB.drewN {w W : World} {v : Value} {o : List Rcd} (h : RcB w v o W) (n : Nat) : RcB w v o (W.drewN n) := ⟨h.own, h.new, ⟨h.bel.os, h.bel.tape, h.bel.output, h.bel.size, h.bel.block⟩⟩
theorem Tryz.infoRec : (Tryz.prog.info? 33).map (fun i => (i.zero, i.size, i.bytes)) = some (some (.agg #[.int .u64 0, .int .u64 0, .int .i64 0, .int .i64 0]), 4, 32) := by kernel_rfl
def livL (l : List Rcd) (W now : Int) : List Rcd := l.filter fun r => decide (now < r.t + W)
theorem livL_snoc {l : List Rcd} {W now : Int} {r : Rcd} (h : now < r.t + W) : livL (l ++ [r]) W now = livL l W now ++ [r] := by
  unfold livL
  rw [List.filter_append, List.filter_cons_of_pos (by exact decide_eq_true h)]; rfl
theorem livL_skip {l : List Rcd} {W now : Int} {r : Rcd} (h : ¬ now < r.t + W) : livL (l ++ [r]) W now = livL l W now := by
  unfold livL
  rw [List.filter_append, List.filter_cons_of_neg (by rw [decide_eq_false h]; decide)]; simp
set_option maxHeartbeats 4000000 in
set_option maxRecDepth 100000 in
theorem tp_live (w : World) (v : Value) (l : List Rcd) (cW cE cV cD now : Int) (ho : w.ownsRow 0 33 4 v l.length (rcV l)) (hl : l.length ≤ 1000) (hr : -9223372036854775808 ≤ now - cW ∧ now - cW ≤ 9223372036854775807) :
    Calls Tryz.prog 14 #[.agg #[.int .i64 cW, .int .i64 cE, .int .i64 cV, .int .i64 cD], v, .int .i64 now] w (fun e w' => ∃ v', e = .returned v' ∧ RcB w v' (livL l cW now) w') := by
  obtain ⟨ao, cp, rfl⟩ := owns_slice ho
  have HO := Lib.hid ho
  have HIL : Hid (∀ k, (livL (l.take k) cW now).length ≤ l.length) := fun k => by
    have h1 := List.length_filter_le (fun r : Rcd => decide (now < r.t + cW)) (l.take k)
    rw [List.length_take] at h1
    unfold livL; omega
  have hws : IntKind.i64.wrap (now - cW) = now - cW := IntWalk.i64_in _ (by omega)
  generalize hn : l.length = n at *
  have HN := Lib.hid hn
  clear hn ho hr
  have HB0 : Hid (Below w.heap.size w (w.alloc (.cells #[.int .i64 cW, .int .i64 cE, .int .i64 cV, .int .i64 cD] 23))) := bel_alloc w _
  have HBX := Lib.hid (Blk.new w 23 [.int .i64 cW, .int .i64 cE, .int .i64 cV, .int .i64 cD])
  simp only [List.toArray] at HBX
  go_enter Tryz.func14, Tryz.ntmps14
  go_wp2_with fail
  generalize hw1 : w.alloc (.cells #[.int .i64 cW, .int .i64 cE, .int .i64 cV, .int .i64 cD] 23) = w1 at *
  generalize hz : w.heap.size = z at *
  clear hw1
  go_loopw [7, 8] (fun s7 s8 wr => ∃ k : Nat, k ≤ n ∧ s8 = .int .i64 (k : Int) ∧ RcB w1 s7 (livL (l.take k) cW now) wr) (fun _ s8 _ => n - (intOf s8).toNat)
  case atStart => exact ⟨0, Nat.zero_le _, rfl, RcB.nil w1⟩
  case round =>
    obtain ⟨k, hk, rfl, hid⟩ := hrel
    have HIDF := Lib.hid hid
    obtain ⟨ao3, cp3, rfl⟩ := hid.slice
    clear hid
    by_cases hlt : k < n
    · have t1 : decide ((k : Int) < (n : Int)) = true := decide_eq_true (by omega)
      have t2 : decide (k < n) = true := decide_eq_true hlt
      have hwk : IntKind.i64.wrap ((k : Int) + 1) = (k : Int) + 1 := IntWalk.i64_in _ (by omega)
      obtain ⟨r, hr⟩ : ∃ r, l[k]? = some r := ⟨l[k]'(by rw [HN.out]; exact hlt), List.getElem?_eq_getElem (by rw [HN.out]; exact hlt)⟩
      have HTK0 : Hid (l.take (k + 1) = l.take k ++ [r]) := by
        show _ = _
        rw [List.take_add_one, hr]; rfl
      obtain ⟨gb, cap, hv, _, _, hg, hc, _⟩ := owns_form HO.out (by omega)
      injection hv with q1 _ q3
      subst q1 q3
      have hz1 := HB0.out.size
      have HRG : Hid (wr.rangeAt gb (k * 4) (encC r)) := by
        intro j y hy
        have hj : j < 4 := (List.getElem?_eq_some_iff.1 hy).1
        rw [HIDF.out.bel.cell (p := ⟨gb, k * 4 + j, none⟩) (by show gb < _; omega), HB0.out.cell (p := ⟨gb, k * 4 + j, none⟩) (by show gb < _; omega), hc (k * 4 + j) (by omega), rcV_get hr hj]
        exact hy
      have c3 : wr.cell? ⟨gb, k * 4 + 3, none⟩ = some (.int .i64 r.t) := HRG.out 3 _ rfl
      have cw : wr.cell? ⟨z, 0, none⟩ = some (.int .i64 cW) := (HBX.out.below HIDF.out.bel HBX.out.lt).cell (i := 0) rfl
      have ti2 : (k : Int) < (n : Int) := by omega
      have HKL := Lib.hid hlt
      have HLL : Hid ((livL (l.take k) cW now).length ≤ 1000) := by show _ ≤ _; have := HIL.out k; omega
      clear hc hg hlt hr hz1
      obtain ⟨u, HU⟩ : ∃ u, Hid (r.u = u) := ⟨_, rfl⟩
      obtain ⟨y, HY⟩ : ∃ y, Hid (r.v = y) := ⟨_, rfl⟩
      obtain ⟨wt, HWT⟩ : ∃ y, Hid (r.wt = y) := ⟨_, rfl⟩
      obtain ⟨rt, HRT⟩ : ∃ rt, Hid (r.t = rt) := ⟨_, rfl⟩
      have HEN : Hid (encC r = [.int .u64 (u : Int), .int .u64 (y : Int), .int .i64 wt, .int .i64 rt]) := by
        show _ = _
        unfold encC; rw [HU.out, HY.out, HWT.out, HRT.out]
      rw [HEN.out] at HRG
      rw [HRT.out] at c3
      by_cases hlv : now < r.t + cW
      · have HTK := Lib.hid (livL_snoc (l := l.take k) hlv)
        rw [HRT.out] at hlv
        generalize livL (l.take k) cW now = o at *
        obtain ⟨m, HLE⟩ : ∃ m, Hid (o.length = m) := ⟨_, rfl⟩
        have HID := Lib.hid HIDF.out
        rw [HLE.out] at HID
        have hm : m ≤ 1000 := by rw [← HLE.out]; exact HLL.out
        rw [HLE.out]
        have t3 : decide (now - cW < rt) = true := decide_eq_true (by omega)
        clear hlv
        go_wp2_with fail
        go_quiet (fail)
        have HRN : Hid ((wr.drewN nq).rangeAt gb (k * 4) [.int .u64 (u : Int), .int .u64 (y : Int), .int .i64 wt, .int .i64 rt]) := HRG.out
        have HI1 := Lib.hid (HIDF.out.drewN nq)
        clear HRG HID HIDF c3 cw
        generalize wr.drewN nq = w2 at *
        have HOW : Hid ((w2.alloc (.cells #[.int .u64 (u : Int), .int .u64 (y : Int), .int .i64 wt, .int .i64 rt] 33)).ownsRow 0 33 4 (.slice ao3 m cp3) m (rcV o)) := by
          have := HI1.out.own.alloc (.cells #[.int .u64 (u : Int), .int .u64 (y : Int), .int .i64 wt, .int .i64 rt] 33)
          rwa [HLE.out] at this
        have HNS := Lib.hid (news_new w2 33 [.int .u64 (u : Int), .int .u64 (y : Int), .int .i64 wt, .int .i64 rt])
        generalize hrows : rcV o = rows at *
        have HROWS := Lib.hid hrows
        clear hrows
        go_wp2_with (first | (with_reducible refine wpList_load_mid rfl 33 _ rfl gb (k * 4) rfl [.int .u64 (u : Int), .int .u64 (y : Int), .int .i64 wt, .int .i64 rt] _ HRN.out Tryz.underlying33 rfl (by kernel_rfl) ?_) | (at_builtin; apply keepIt2))
        apply Lib.hid
        refine (wpList_appendB 33 (.agg #[.int .u64 0, .int .u64 0, .int .i64 0, .int .i64 0]) 4 32 Tryz.underlying45 Tryz.infoRec rfl (by decide) (.slice ao3 m cp3) m rows rfl HOW.out ⟨w2.heap.size, 0, none⟩ 1 1 [.int .u64 (u : Int), .int .u64 (y : Int), .int .i64 wt, .int .i64 rt] rfl rfl HNS.out (by rw [← HEN.out]; exact encC_one r) (by unfold maxLen; omega) (by omega) ?_)
        intro v' w5 ho hg hkk
        obtain ⟨ao2, cp2, rfl⟩ := owns_slice ho
        have HI2 : Hid (RcB w1 (.slice ao2 (o ++ [r]).length cp2) (o ++ [r]) w5) := by
          refine HI1.out.app (T := 33) ?_ ?_ ?_
          · rw [HLE.out, HROWS.out, HEN.out]; exact ho
          · rw [HLE.out, HEN.out]; exact hg
          · rw [HLE.out, HEN.out]; exact hkk
        have HLE2 : Hid ((o ++ [r]).length = m + 1) := by show _ = _; rw [List.length_append, HLE.out]; rfl
        rw [HLE2.out] at HI2
        clear ho hg hkk HOW HNS HROWS
        go_wp2_with fail
        go_roundw
        case rel => exact ⟨k + 1, HKL.out, rfl, by rw [HTK0.out, HTK.out]; exact HI2.out⟩
        case measure => have := HKL.out; simp [intOf]; omega
      · have HTK := Lib.hid (livL_skip (l := l.take k) hlv)
        rw [HRT.out] at hlv
        generalize livL (l.take k) cW now = o at *
        have t3 : decide (now - cW < rt) = false := decide_eq_false (by omega)
        clear hlv
        go_wp2_with fail
        go_quiet (fail)
        have HI1 := Lib.hid (HIDF.out.drewN nq)
        clear HRG HIDF c3 cw
        generalize wr.drewN nq = w2 at *
        go_wp2_with fail
        go_roundw
        case rel => exact ⟨k + 1, HKL.out, rfl, by rw [HTK0.out, HTK.out]; exact HI1.out⟩
        case measure => have := HKL.out; simp [intOf]; omega
    · have t1 : decide ((k : Int) < (n : Int)) = false := decide_eq_false (by omega)
      have t2 : decide (k < n) = false := decide_eq_false hlt
      have hkn : k = n := by omega
      have HE : Hid (l.take k = l) := by show _ = _; rw [hkn, ← HN.out]; exact List.take_length
      rw [HE.out] at HIDF
      rw [HE.out]
      go_wp2_with fail
      go_ret
      exact ⟨_, rfl, HIDF.out.after (by rw [hz]; exact HB0.out)⟩
end Go.Proofs.YtlooaipipmiijaaGreat

namespace Go.Proofs.YtlooaipipmiijaaGreat
set_option linter.unusedVariables false
set_option linter.unusedSimpArgs false
open Go.RowKit
structure WnFr (w0 : World) (b : Nat) (G : WnG) (all : List Rcd) (w : World) : Prop where
  mem : WnM w b G
  wl : WnL G all
  ff : ∀ k, G.foot b k → w0.heap.size ≤ k
  bel : Below w0.heap.size w0 w
theorem WnFr.step {w0 w w' : World} {b : Nat} {G G' : WnG} {all all' : List Rcd} (h : WnFr w0 b G all w) (s : WnS b G w G' w') (hl : WnL G' all') : WnFr w0 b G' all' w' := by
  refine ⟨s.mem, hl, fun k hk => ?_, h.bel.trans (s.mod.below h.bel.size h.ff)⟩
  rcases s.ft k hk with a | a
  · exact h.ff k a
  · have := h.bel.size; omega
theorem WnFr.quiet {w0 w w' : World} {b : Nat} {G : WnG} {all : List Rcd} (h : WnFr w0 b G all w) (s : WnV b G w w') : ∃ col, WnS b G w { G with col := col } w' ∧ WnFr w0 b { G with col := col } all w' := by
  obtain ⟨col, s⟩ := s
  exact ⟨col, s, h.step s (h.wl.col col)⟩
theorem WnFr.below {w0 w w' : World} {b : Nat} {G : WnG} {all : List Rcd} (h : WnFr w0 b G all w) (hb : Below w.heap.size w w') : WnFr w0 b G all w' := h.step ((WnS.refl h.mem).below hb) h.wl
theorem WnNw.fr {w w' : World} {W D : Int} {E V b : Nat} {G : WnG} (h2 : WnM w' b G) (h3 : WnL G []) (h5 : ∀ k, G.foot b k → w.heap.size ≤ k) (hb : Below w.heap.size w w') : WnFr w b G [] w' := ⟨h2, h3, h5, hb⟩
set_option maxHeartbeats 1000000 in
theorem tp_small (w : World) (W E V D : Int) (ao : Option Addr) (n cp : Nat) :
    Calls Tryz.prog 6 #[.agg #[.int .i64 W, .int .i64 E, .int .i64 V, .int .i64 D], .slice ao n cp] w (RetB (.bool (decide (V ≤ 12 ∧ E ≤ 30 ∧ n ≤ 60))) w) := by
  have HB : Hid (Below w.heap.size w (w.alloc (.cells #[.int .i64 W, .int .i64 E, .int .i64 V, .int .i64 D] 23))) := bel_alloc w _
  have HX := Lib.hid (Blk.new w 23 [.int .i64 W, .int .i64 E, .int .i64 V, .int .i64 D])
  simp only [List.toArray] at HX
  go_enter Tryz.func6, Tryz.ntmps6
  go_upto_region 1 with fail
  generalize w.alloc (.cells #[.int .i64 W, .int .i64 E, .int .i64 V, .int .i64 D] 23) = w1 at *
  generalize hz : w.heap.size = z at *
  have c0 := HX.out.cell (i := 0) rfl
  have c1 := HX.out.cell (i := 1) rfl
  have c2 := HX.out.cell (i := 2) rfl
  have c3 := HX.out.cell (i := 3) rfl
  by_cases h0 : V ≤ 12
  · have t0 : decide (V ≤ (12 : Int)) = true := decide_eq_true h0
    by_cases h1 : E ≤ 30
    · have t1 : decide (E ≤ (30 : Int)) = true := decide_eq_true h1
      by_cases h2 : n ≤ 60
      · have t2 : decide ((n : Int) ≤ (60 : Int)) = true := decide_eq_true (by omega)
        have t3 : decide (n ≤ 60) = true := decide_eq_true h2
        have hd : decide (V ≤ 12 ∧ E ≤ 30 ∧ n ≤ 60) = true := decide_eq_true ⟨h0, h1, h2⟩
        go_wp2_with fail
        go_ret
        exact ⟨by first | rfl | (rw [hd]; rfl), by rw [hz]; exact HB.out⟩
      · have t2 : decide ((n : Int) ≤ (60 : Int)) = false := decide_eq_false (by omega)
        have t3 : decide (n ≤ 60) = false := decide_eq_false h2
        have hd : decide (V ≤ 12 ∧ E ≤ 30 ∧ n ≤ 60) = false := decide_eq_false fun c => h2 c.2.2
        go_wp2_with fail
        go_ret
        exact ⟨by first | rfl | (rw [hd]; rfl), by rw [hz]; exact HB.out⟩
    · have t1 : decide (E ≤ (30 : Int)) = false := decide_eq_false h1
      have hd : decide (V ≤ 12 ∧ E ≤ 30 ∧ n ≤ 60) = false := decide_eq_false fun c => h1 c.2.1
      go_wp2_with fail
      go_ret
      exact ⟨by first | rfl | (rw [hd]; rfl), by rw [hz]; exact HB.out⟩
  · have t0 : decide (V ≤ (12 : Int)) = false := decide_eq_false h0
    have hd : decide (V ≤ 12 ∧ E ≤ 30 ∧ n ≤ 60) = false := decide_eq_false fun c => h0 c.1
    go_wp2_with fail
    go_ret
    exact ⟨by first | rfl | (rw [hd]; rfl), by rw [hz]; exact HB.out⟩
theorem works_add {G : WnG} (h : G.W = 10 ∧ G.E = 4 ∧ G.V = 4 ∧ G.D = 0 ∧ G.now = 0 ∧ G.add = 0) : addE G [] ⟨1, 2, 0, 0⟩ = 0 := by
  obtain ⟨h1, h2, h3, _, h5, _⟩ := h
  unfold addE
  rw [h1, h2, h3, h5]
  decide
set_option maxHeartbeats 1000000 in
theorem tp_works (w : World) : Calls Tryz.prog 7 #[] w (RetB (.bool true) w) := by
  have HNW := Lib.hid (wn_new w 10 0 4 4 (by decide) (by decide))
  have hb1 : ∀ W, (Instr.build 23 #[(0, .int .i64 10), (1, .int .i64 4), (2, .int .i64 4)]).run Tryz.prog W = .ok (.agg #[.int .i64 10, .int .i64 4, .int .i64 4, .int .i64 0]) W := fun W => by kernel_rfl
  have hb2 : ∀ W, (Instr.build 33 #[(0, .int .u64 1), (1, .int .u64 2)]).run Tryz.prog W = .ok (.agg #[.int .u64 1, .int .u64 2, .int .i64 0, .int .i64 0]) W := fun W => by kernel_rfl
  go_enter Tryz.func7, Tryz.ntmps7
  go_upto_region 4 with (go_at_call 5; refine HNW.out.mono ?_; rintro e w1 hpo; obtain ⟨b, G, he, h2, h3, h4, h5⟩ := hpo.ex; subst he; have HF := Lib.hid (WnNw.fr (W := 10) (D := 0) (E := 4) (V := 4) h2 h3 h5 hpo.bel); have HG := Lib.hid h4; clear hpo h2 h3 h4 h5)
  have HA := Lib.hid (wn_add w1 b G [] HF.out.mem HF.out.wl 1 2 0 0 (by decide) (by decide) (by decide) (by have := HG.out.2.2.2.2.2; omega))
  go_upto_region 5 with (go_at_call 8; refine HA.out.mono ?_; rintro e w2 ⟨hv, G2, hs, _, _, hy, _⟩; have h0 := works_add HG.out; rw [h0] at hv; subst hv; have HF2 := Lib.hid (HF.out.step hs (hy h0).1); clear hs hy h0)
  have HC := rd_connected HF2.out.mem HF2.out.wl 1 2
  have ec : conB (stay G.W 0 [] ++ [⟨1, 2, 0, 0⟩]) 1 2 = true := by
    show conB [⟨1, 2, 0, 0⟩] 1 2 = true
    decide
  have ee : conE (stay G.W 0 [] ++ [⟨1, 2, 0, 0⟩]) 1 2 = 0 := by
    show conE [⟨1, 2, 0, 0⟩] 1 2 = 0
    decide
  rw [ec, ee] at HC
  replace HC := Lib.hid HC
  clear ec ee
  go_wp2_with (go_at_call 13; refine HC.out.mono ?_; rintro e w3 ⟨rfl, hst⟩; obtain ⟨col, _, hf⟩ := HF2.out.quiet hst; have HF3 := Lib.hid hf; clear hst hf)
  go_ret
  exact ⟨rfl, HF3.out.bel⟩
end Go.Proofs.YtlooaipipmiijaaGreat

namespace Go.Proofs.YtlooaipipmiijaaGreat
set_option linter.unusedVariables false
set_option linter.unusedSimpArgs false
open Go.RowKit
theorem min_time {t : Int} : ∀ l : List Rcd, (∃ q, q ∈ l ∧ t ≤ q.t) → ∃ q0, q0 ∈ l ∧ t ≤ q0.t ∧ ∀ q, q ∈ l → t ≤ q.t → q0.t ≤ q.t
  | [], ⟨_, h, _⟩ => absurd h List.not_mem_nil
  | a :: l, ⟨q, hq, ht⟩ => by
    by_cases c : ∃ q, q ∈ l ∧ t ≤ q.t
    · obtain ⟨q0, h1, h2, h3⟩ := min_time l c
      by_cases d : t ≤ a.t ∧ a.t < q0.t
      · refine ⟨a, List.mem_cons_self, d.1, fun x hx k => ?_⟩
        rcases List.mem_cons.1 hx with e | e
        · rw [e]; exact Int.le_refl _
        · have := h3 x e k; omega
      · refine ⟨q0, List.mem_cons_of_mem _ h1, h2, fun x hx k => ?_⟩
        rcases List.mem_cons.1 hx with e | e
        · rw [e] at k ⊢; omega
        · exact h3 x e k
    · have e : q = a := by
        rcases List.mem_cons.1 hq with e | e
        · exact e
        · exact absurd ⟨q, e, ht⟩ c
      subst e
      refine ⟨q, List.mem_cons_self, ht, fun x hx k => ?_⟩
      rcases List.mem_cons.1 hx with e | e
      · rw [e]; exact Int.le_refl _
      · exact absurd ⟨x, e, k⟩ c
theorem RL.mono {l : List Rcd} {s t : Int} (h : ∀ q, q ∈ l → s ≤ q.t → t ≤ q.t) : ∀ x y, RL l s x y → RL l t x y := fun _ _ ⟨r, h1, h2, h3⟩ => ⟨r, h1, h r h1 h2, h3⟩
theorem rch_time {l : List Rcd} {t : Int} {x y : Nat} (h : Rch (RL l t) x y) (hne : x ≠ y) : ∃ q, q ∈ l ∧ t ≤ q.t ∧ y ∈ rchL l x q.t := by
  have hex : ∃ q, q ∈ l ∧ t ≤ q.t := by
    cases h with
    | refl => exact absurd rfl hne
    | step _ k => obtain ⟨r, h1, h2, _⟩ := k; exact ⟨r, h1, h2⟩
  obtain ⟨q0, h1, h2, h3⟩ := min_time l hex
  exact ⟨q0, h1, h2, mem_rchL.2 (h.mono (RL.mono h3))⟩
theorem bst_max {L : List Rcd} {u v : Nat} : ∀ (l : List Rcd) (b : Int), (l.foldl (bstF L u v) b = b ∨ ∃ r, r ∈ l ∧ r.t = l.foldl (bstF L u v) b ∧ v ∈ rchL L u r.t) ∧ b ≤ l.foldl (bstF L u v) b ∧ ∀ r, r ∈ l → v ∈ rchL L u r.t → r.t ≤ l.foldl (bstF L u v) b
  | [], b => ⟨.inl rfl, Int.le_refl _, fun _ h => absurd h List.not_mem_nil⟩
  | r :: l, b => by
    obtain ⟨h1, h2, h3⟩ := bst_max (L := L) (u := u) (v := v) l (bstF L u v b r)
    rw [List.foldl_cons]
    have hb : b ≤ bstF L u v b r := by unfold bstF; split <;> omega
    refine ⟨?_, Int.le_trans hb h2, fun q hq hv => ?_⟩
    · rcases h1 with h1 | ⟨q, h4, h5, h6⟩
      · by_cases c : b < r.t ∧ v ∈ rchL L u r.t
        · have e : bstF L u v b r = r.t := if_pos c
          exact .inr ⟨r, List.mem_cons_self, by rw [h1, e], c.2⟩
        · have e : bstF L u v b r = b := if_neg c
          exact .inl (h1.trans e)
      · exact .inr ⟨q, List.mem_cons_of_mem _ h4, h5, h6⟩
    · rcases List.mem_cons.1 hq with c | c
      · subst c
        refine Int.le_trans ?_ h2
        unfold bstF
        by_cases d : b < q.t
        · rw [if_pos ⟨d, hv⟩]; exact Int.le_refl _
        · rw [if_neg (fun k => d k.1)]; omega
      · exact h3 q c hv
theorem best_is {all : List Rcd} {u v : Nat} (hne : u ≠ v) (hc : v ∈ rchL all u MINT) (hm : ∀ r, r ∈ all → MINT < r.t) : (∃ r, r ∈ all ∧ r.t = bestL all u v) ∧ Rch (RL all (bestL all u v)) u v ∧ ¬ Rch (RL all (bestL all u v + 1)) u v := by
  obtain ⟨h1, h2, h3⟩ := bst_max (L := all) (u := u) (v := v) all MINT
  obtain ⟨q, q1, q2, q3⟩ := rch_time (mem_rchL.1 hc) hne
  have hq : q.t ≤ bestL all u v := h3 q q1 q3
  have hx : ∃ r, r ∈ all ∧ r.t = bestL all u v ∧ v ∈ rchL all u r.t := by
    rcases h1 with h1 | h1
    · have h1' : bestL all u v = MINT := h1
      have := hm q q1
      omega
    · exact h1
  obtain ⟨r, r1, r2, r3⟩ := hx
  refine ⟨⟨r, r1, r2⟩, by rw [← r2]; exact mem_rchL.1 r3, fun k => ?_⟩
  obtain ⟨p, p1, p2, p3⟩ := rch_time k hne
  have h4 : p.t ≤ bestL all u v := h3 p p1 p3
  omega
theorem WnL.minT {G : WnG} {all : List Rcd} (hl : WnL G all) : ∀ r, r ∈ all → MINT < r.t ∧ G.now < r.t + G.W ∧ r.t + G.W ≤ 9223372036854775807 ∧ r.u < 18446744073709551616 ∧ r.v < 18446744073709551616 := by
  obtain ⟨ge, F, he⟩ := hl.ed
  intro r hr
  obtain ⟨s, h1, rfl⟩ := hl.mem.1 hr
  have h2 := he.ex s h1
  have h3 := hl.live s h1
  have h4 := he.stl.own s h1
  refine ⟨hl.times he h1, ?_, ?_, h4.2.2.1, h4.2.2.2.1⟩
  · show G.now < (G.g.R s).t + G.W; omega
  · show (G.g.R s).t + G.W ≤ _; omega
theorem un_is {G : WnG} {all : List Rcd} (hl : WnL G all) {u v : Nat} (h : unB all u v = true) : u ≠ v ∧ (u ∈ idsL all ∧ v ∈ idsL all) ∧ unT G.W all u v = bestL all u v + G.W ∧ G.now < bestL all u v + G.W ∧ bestL all u v + G.W ≤ 9223372036854775807 ∧ Rch (RL all (bestL all u v)) u v ∧ ¬ Rch (RL all (bestL all u v + 1)) u v := by
  have h0 := h
  unfold unB conB at h
  rw [Bool.and_eq_true, decide_eq_true_eq, decide_eq_true_eq] at h
  obtain ⟨⟨hk, hc⟩, hne⟩ := h
  obtain ⟨⟨r, r1, r2⟩, h2, h3⟩ := best_is hne hc fun r hr => (hl.minT r hr).1
  obtain ⟨_, m2, m3, _⟩ := hl.minT r r1
  rw [r2] at m2 m3
  exact ⟨hne, hk, by unfold unT; rw [if_pos h0], m2, m3, h2, h3⟩
theorem owns_below {w w' : World} {T : TypeId} {size n : Nat} {v : Value} {xs : List Value} (h : w.ownsRow 0 T size v n xs) (hb : Below w.heap.size w w') : w'.ownsRow 0 T size v n xs := owns_same h fun k hk => hb.block k (h.lt k hk).2
theorem RcB.up {w W W1 : World} {v : Value} {o : List Rcd} (h : RcB w v o W) (hb : Below W.heap.size W W1) : RcB w v o W1 := ⟨owns_below h.own hb, h.new, h.bel.trans (hb.mono h.bel.size)⟩
structure CnI (w : World) (b : Nat) (G : WnG) (all : List Rcd) (z : Nat) (cs : List Value) (v vs : Value) (Gk : WnG) (W : World) : Prop where
  st : WnS b G w Gk W
  eq : ∃ col, Gk = { G with col := col }
  ra : W.ownsRow 0 33 4 v all.length (rcV all)
  na : ∀ x, v.ownBlock = some x → ¬ Gk.foot b x
  rv : W.ownsRow 0 25 1 vs (idsL all).length (idV (idsL all))
  nv : ∀ x, vs.ownBlock = some x → ¬ Gk.foot b x
  bz : Blk W z 23 cs
  nz : ¬ Gk.foot b z
theorem CnI.below {w W W1 : World} {b z : Nat} {G Gk : WnG} {all : List Rcd} {cs : List Value} {v vs : Value} (h : CnI w b G all z cs v vs Gk W) (hb : Below W.heap.size W W1) : CnI w b G all z cs v vs Gk W1 :=
  ⟨h.st.below hb, h.eq, owns_below h.ra hb, h.na, owns_below h.rv hb, h.nv, h.bz.below hb h.bz.lt, h.nz⟩
theorem CnI.step {w W W1 : World} {b z : Nat} {G Gk : WnG} {all : List Rcd} {cs : List Value} {v vs : Value} (h : CnI w b G all z cs v vs Gk W) (s : WnV b Gk W W1) : ∃ G2, CnI w b G all z cs v vs G2 W1 ∧ WnS b Gk W G2 W1 := by
  obtain ⟨col, s⟩ := s
  obtain ⟨col0, e⟩ := h.eq
  refine ⟨_, ⟨h.st.trans s, ⟨col, by rw [e]⟩, (s.row h.ra h.na).1, (s.row h.ra h.na).2, (s.row h.rv h.nv).1, (s.row h.rv h.nv).2, (s.box h.bz h.nz).1, (s.box h.bz h.nz).2⟩, s⟩
theorem CnI.wl {w W : World} {b z : Nat} {G Gk : WnG} {all : List Rcd} {cs : List Value} {v vs : Value} (h : CnI w b G all z cs v vs Gk W) (hl : WnL G all) : WnL Gk all ∧ Gk.W = G.W := by
  obtain ⟨col, e⟩ := h.eq
  rw [e]; exact ⟨hl.col col, rfl⟩
theorem CnI.done {w W : World} {b z : Nat} {G Gk : WnG} {all : List Rcd} {cs : List Value} {v vs : Value} (h : CnI w b G all z cs v vs Gk W) : WnV b G w W := by
  obtain ⟨col, e⟩ := h.eq
  exact ⟨col, by rw [← e]; exact h.st⟩
end Go.Proofs.YtlooaipipmiijaaGreat
