/- Several texts in one: WnC, WnD, WnF, WnH, WnI. -/
import Derived.Test.YtlooaipipmiijaaGreatZX34
namespace Go.Proofs.YtlooaipipmiijaaGreat
set_option linter.unusedVariables false
set_option linter.unusedSimpArgs false
open Go.RowKit
structure CfgE (G G' : WnG) : Prop where
  W : G'.W = G.W
  E : G'.E = G.E
  V : G'.V = G.V
  D : G'.D = G.D
theorem CfgE.refl (G : WnG) : CfgE G G := ⟨rfl, rfl, rfl, rfl⟩
theorem CfgE.trans {G G1 G2 : WnG} (h : CfgE G G1) (k : CfgE G1 G2) : CfgE G G2 := ⟨k.W.trans h.W, k.E.trans h.E, k.V.trans h.V, k.D.trans h.D⟩
structure WnTk (w : World) (b : Nat) (G : WnG) (all : List Rcd) (tt : Int) (e : Ending) (w' : World) : Prop where
  val : e = .returned (.int .i64 (clkE G.W G.now tt))
  out : ∃ G', WnS b G w G' w' ∧ CfgE G G' ∧ G'.add = G.add ∧ (clkE G.W G.now tt = 0 → WnL G' (all.filter fun r => decide (tt < r.t + G.W)) ∧ G'.now = tt) ∧ (clkE G.W G.now tt ≠ 0 → WnL G' all ∧ G'.now = G.now)
structure TkI (G0 : WnG) (n k : Nat) (tt : Int) (G : WnG) : Prop where
  ed : ∃ ge F, WnE G ge F
  fQ : G.f.Q = G0.Q.drop k
  Q : G.Q = G0.Q.drop n
  Lv : ∀ s, G.g.Lv s ↔ G0.g.Lv s ∧ ∀ i, i < k → (ent G0.Q i).1 ≠ (s : Int)
  R : ∀ s, G.g.Lv s → G.g.R s = G0.g.R s
  now : G.now = tt
  cfg : CfgE G0 G
  add : G.add = G0.add
theorem clk_zero {W now tt : Int} (h : clkE W now tt = 0) (hW : 1 ≤ W) (hn : 0 ≤ now) : now ≤ tt ∧ tt + W ≤ 9223372036854775807 := by
  unfold clkE at h
  by_cases c : tt < now
  · rw [if_pos c] at h; omega
  · rw [if_neg c] at h
    unfold caddE at h
    by_cases d : -9223372036854775808 ≤ tt + W ∧ tt + W ≤ 9223372036854775807
    · exact ⟨by omega, d.2⟩
    · rw [if_neg d] at h; omega
theorem u64_wrap_nat (x : Int) : ∃ n : Nat, IntKind.u64.wrap x = (n : Int) := by
  refine ⟨(IntKind.u64.wrap x).toNat, ?_⟩
  have : 0 ≤ IntKind.u64.wrap x := by
    show 0 ≤ x % (2 ^ 64 : Int)
    exact Int.emod_nonneg _ (by decide)
  omega
theorem ent_drop {Q : List Ent} {k : Nat} (h : k < Q.length) : Q.drop k = ent Q k :: Q.drop (k + 1) := by
  rw [ent_eq h]; exact List.drop_eq_getElem_cons h
theorem TkI.done {G0 G : WnG} {all : List Rcd} {tt : Int} (h0 : WnL G0 all) (hs : Sorted G0.Q) (h : TkI G0 (dueN G0.Q tt) (dueN G0.Q tt) tt G) (ht : 0 ≤ tt ∧ tt ≤ 9223372036854775807) : WnL G (all.filter fun r => decide (tt < r.t + G0.W)) := by
  obtain ⟨ge0, F0, he0⟩ := h0.ed
  obtain ⟨hf1, hf2⟩ := due_filter hs tt
  have hn : dueN G0.Q tt = (G0.Q.takeWhile (isDue tt)).length := rfl
  have htake : G0.Q.take (dueN G0.Q tt) = G0.Q.filter (isDue tt) := by
    rw [← hf1, hn]
    exact (List.prefix_iff_eq_take.1 (List.takeWhile_prefix _)).symm
  have key : ∀ s, G.g.Lv s ↔ G0.g.Lv s ∧ tt < (G0.g.R s).ex := fun s => by
    rw [h.Lv s]
    refine and_congr_right fun hs0 => ?_
    have hent := (he0.ent (i := (s : Int)) (k := (G0.g.R s).ex)).2 ⟨s, rfl, hs0, rfl⟩
    rw [← h0.q] at hent
    constructor
    · intro hno
      refine Classical.byContradiction fun c => ?_
      have hd : isDue tt ((s : Int), (G0.g.R s).ex) = true := by unfold isDue; exact decide_eq_true (by show (G0.g.R s).ex ≤ tt; omega)
      have hm : ((s : Int), (G0.g.R s).ex) ∈ G0.Q.take (dueN G0.Q tt) := by rw [htake]; exact List.mem_filter.2 ⟨hent, hd⟩
      obtain ⟨i, hi, hie⟩ := List.getElem_of_mem hm
      rw [List.length_take] at hi
      refine hno i (by omega) ?_
      rw [ent_eq (by omega)]
      rw [List.getElem_take] at hie
      rw [hie]
    · intro hlt i hi hie
      have hil : i < G0.Q.length := by have := dueN_le G0.Q tt; omega
      have hm : ent G0.Q i ∈ G0.Q.take (dueN G0.Q tt) := by
        rw [ent_eq hil]
        exact List.mem_take_iff_getElem.2 ⟨i, by omega, rfl⟩
      rw [htake, List.mem_filter] at hm
      obtain ⟨m1, m2⟩ := hm
      have m3 : ((ent G0.Q i).1, (ent G0.Q i).2) ∈ G0.f.Q := by rw [← h0.q]; exact m1
      obtain ⟨s', k1, k2, k3⟩ := he0.ent.1 m3
      have : s' = s := by omega
      subst this
      unfold isDue at m2
      have := of_decide_eq_true m2
      omega
  obtain ⟨ss, s1, s2, s3⟩ := h0.all
  refine ⟨h.ed, h.Q.trans h.fQ.symm, by rw [h.now]; exact ht, fun s hs' => ?_, ss.filter (fun s => decide (tt < (G0.g.R s).ex)), s1.filter _, fun s => ?_, ?_⟩
  · rw [h.R s hs', h.now]; exact ((key s).1 hs').2
  · rw [List.mem_filter, s2, decide_eq_true_eq, key s]
  · rw [s3, List.filter_map]
    have e1 : ss.filter ((fun r => decide (tt < r.t + G0.W)) ∘ fun s => (G0.g.R s).rcd) = ss.filter (fun s => decide (tt < (G0.g.R s).ex)) := by
      refine List.filter_congr fun s hs' => ?_
      show decide (tt < (G0.g.R s).t + G0.W) = _
      rw [(he0.ex s ((s2 s).1 hs')).1]
    rw [e1]
    refine List.map_congr_left fun s hs' => ?_
    rw [List.mem_filter, s2, decide_eq_true_eq] at hs'
    rw [h.R s ((key s).2 hs')]
theorem WnS.row {b : Nat} {G G1 : WnG} {w w1 : World} {T : TypeId} {size n : Nat} {v : Value} {xs : List Value} (h : WnS b G w G1 w1) (ho : w.ownsRow 0 T size v n xs) (hn : ∀ x, v.ownBlock = some x → ¬ G.foot b x) : w1.ownsRow 0 T size v n xs ∧ ∀ x, v.ownBlock = some x → ¬ G1.foot b x :=
  ⟨owns_modL ho h.mod hn, fun x e k => by
    have := (ho.lt x e).2
    rcases h.ft x k with a | a
    · exact hn x e a
    · omega⟩
end Go.Proofs.YtlooaipipmiijaaGreat

namespace Go.Proofs.YtlooaipipmiijaaGreat
set_option linter.unusedVariables false
set_option linter.unusedSimpArgs false
open Go.RowKit
structure TkL (w : World) (b : Nat) (G0 : WnG) (n k : Nat) (tt : Int) (v : Value) (Gk : WnG) (W : World) : Prop where
  st : WnS b G0 w Gk W
  ti : TkI G0 n k tt Gk
  row : W.ownsRow 0 3 1 v n ((G0.Q.take n).map fun e => .int .i64 e.1)
  nf : ∀ x, v.ownBlock = some x → ¬ Gk.foot b x
theorem TkL.step {w W W1 : World} {b : Nat} {G0 : WnG} {n k k' : Nat} {tt : Int} {v : Value} {Gk G1 : WnG} (h : TkL w b G0 n k tt v Gk W) (s : WnS b Gk W G1 W1) (ti : TkI G0 n k' tt G1) : TkL w b G0 n k' tt v G1 W1 :=
  ⟨h.st.trans s, ti, (s.row h.row h.nf).1, (s.row h.row h.nf).2⟩
theorem WnM.due {w : World} {b : Nat} {G : WnG} {v : Value} {Q' : List Ent} {qg' : HG} (h : WnM w b G) (hn : ∀ x, v.ownBlock = some x → ¬ qg'.foot x ∧ x ≠ G.ep ∧ w.heap.size ≤ x) (col : Nat → Nat) : ∀ x, v.ownBlock = some x → ¬ ({ G with Q := Q', qg := qg', col := col } : WnG).foot b x := by
  intro x hx
  obtain ⟨h1, h2, h3⟩ := hn x hx
  rintro (e | e | e | (e | e) | e)
  · have := h.box.lt; omega
  · have e' : x = G.cp := e
    have := h.clk.box.lt; omega
  · have := (h.k2 x e).1; omega
  · exact h2 e
  · exact h1 e
  · have := h.fo.foot_lt x e; omega
theorem TkI.next {G0 G : WnG} {all : List Rcd} {n k : Nat} {tt : Int} (h0 : WnL G0 all) (h : TkI G0 n k tt G) (hk : k < n) (hn : n ≤ G0.Q.length) : ∃ s : Nat, ent G0.Q k = ((s : Int), (ent G0.Q k).2) ∧ G.f.Q = ((s : Int), (ent G0.Q k).2) :: G0.Q.drop (k + 1) ∧ G.g.Lv s := by
  obtain ⟨ge, F, he⟩ := h.ed
  have e1 := h.fQ.trans (ent_drop (Q := G0.Q) (k := k) (by omega))
  have hm : ((ent G0.Q k).1, (ent G0.Q k).2) ∈ G.f.Q := by rw [e1]; exact List.mem_cons_self
  obtain ⟨s, h1, h2, h3⟩ := he.ent.1 hm
  have e2 : ent G0.Q k = ((s : Int), (ent G0.Q k).2) := Prod.ext h1 rfl
  exact ⟨s, e2, by rw [e1, ← e2], h2⟩
theorem TkI.round {G0 G G' : WnG} {n k s : Nat} {tt x : Int} (h : TkI G0 n k tt G) (hs : ent G0.Q k = ((s : Int), x)) (hl : G.g.Lv s) {f' : FoG} {g' : SG} {exs : ∃ ge F F', WnE G ge F ∧ FoP f' ge (fun t => G.g.Lv t ∧ t ≠ s) F'} (fV : f'.V = G.f.V) (fS : f'.S = G.f.S) (fQ : f'.Q = G0.Q.drop (k + 1)) (hg : StL g') (gV : g'.V = G.g.V) (gE : g'.E = G.g.E) (gl : g'.last = G.g.last) (hLv : g'.Lv = (fun x => G.g.Lv x ∧ x ≠ s)) (hR : ∀ t, t ≠ s → g'.R t = G.g.R t) (hT : ∀ i, g'.LvT i → G.g.LvT i ∧ g'.D i = G.g.D i)
    (e1 : G'.g = g') (e2 : G'.f = f') (e3 : CfgE G G') (e6 : G'.add = G.add) (e7 : G'.Q = G.Q) (e8 : G'.now = G.now) : TkI G0 n (k + 1) tt G' := by
  obtain ⟨ge, F, F', he, hf⟩ := exs
  refine ⟨⟨ge, F', he.remove hl hf fV fS hg gV gE gl hLv hR hT e1 e2 e3.V e3.E e3.W e6⟩, by rw [e2]; exact fQ, e7.trans h.Q, fun t => ?_, fun t ht => ?_, e8.trans h.now, h.cfg.trans e3, e6.trans h.add⟩
  · rw [e1, hLv]
    show G.g.Lv t ∧ t ≠ s ↔ _
    rw [h.Lv t]
    constructor
    · rintro ⟨⟨a1, a2⟩, a3⟩
      refine ⟨a1, fun i hi => ?_⟩
      by_cases c : i = k
      · rw [c, hs]; show (s : Int) ≠ t; omega
      · exact a2 i (by omega)
    · rintro ⟨a1, a2⟩
      refine ⟨⟨a1, fun i hi => a2 i (by omega)⟩, ?_⟩
      have := a2 k (by omega)
      rw [hs] at this
      have this' : (s : Int) ≠ t := this
      omega
  · rw [e1] at ht ⊢
    rw [hLv] at ht
    rw [hR t ht.2]; exact h.R t ht.1
theorem StL.tight {g : SG} (h : StL g) (A T : Nat → Prop) : StL { g with FA := A, FT := T } := ⟨h.ids.congr rfl rfl rfl rfl rfl rfl, h.own, h.seq, h.lvn, h.lvE, h.nl, h.szs⟩
theorem WnE.same {G G' : WnG} {ge : Nat → GE} {F : Nat → Prop} (h : WnE G ge F) (e1 : G'.g = G.g) (e2 : G'.f = G.f) (e3 : G'.V = G.V) (e4 : G'.E = G.E) (e5 : G'.W = G.W) (e6 : G'.add = G.add) : WnE G' ge F := by
  obtain ⟨a1, a2, a3, a4, a5, a6, a7, a8, a9, a10⟩ := h
  refine ⟨?_, ?_, ?_, ?_, ?_, ?_, ?_, ?_, ?_, ?_⟩ <;> simp only [e1, e2, e3, e4, e5, e6] <;> assumption
set_option maxHeartbeats 2000000 in
set_option maxRecDepth 100000 in
theorem wn_tick (w : World) (b : Nat) (G : WnG) (all : List Rcd) (h : WnM w b G) (hl : WnL G all) (tt : Int) (ht : -9223372036854775808 ≤ tt ∧ tt ≤ 9223372036854775807) :
    Calls Tryz.prog 9 #[.pointer (some ⟨b, 0, none⟩), .int .i64 tt] w (WnTk w b G all tt) := by
  have H := Lib.hid h
  have HL := Lib.hid hl
  have HT := Lib.hid ht
  have HV := Lib.hid (wn_valid b G.cp w h.c4)
  have HAD := Lib.hid (clk_advance w G.cp G.W G.now tt h.clk ht)
  have c4 := h.c4
  clear h hl ht
  go_enter Tryz.func9, Tryz.ntmps9
  by_cases hz : clkE G.W G.now tt = 0
  · have HZ := Lib.hid hz
    go_upto_region 6 with (first | (go_at_call 18; refine HV.out.mono ?_; rintro e w' ⟨rfl, rfl⟩) | (go_at_call 22; refine HAD.out.mono ?_; rintro e w1 ⟨rfl, ho, hmd⟩; rw [if_pos HZ.out] at ho; have HI1 := Lib.hid (H.out.sClk hmd ho); clear ho hmd; try rw [HZ.out]))
    clear hz c4 HV HAD
    have c6 := HI1.out.mem.c6
    have HDU := Lib.hid (edue_ok w1 G.ep G.E G.Q G.qp G.qg HI1.out.mem.sch tt)
    go_wp2_with (go_at_call 23; refine HDU.out.mono ?_; rintro e w2 hpost; obtain ⟨v, qg', he, ho, hrow, hmd, hft, hnf⟩ := hpost.out; subst he; obtain ⟨ao, cp, rfl⟩ := owns_slice hrow)
    have HI2 := Lib.hid (HI1.out.trans (HI1.out.mem.sSch hmd ho hft))
    have HNF := Lib.hid (HI1.out.mem.due (Q' := G.Q.drop (dueN G.Q tt)) hnf (reco w1 G.col 3))
    have HRW := Lib.hid hrow
    clear ho hmd hft hnf hrow
    have HT2 : Hid (TkI G (dueN G.Q tt) 0 tt { G with now := tt, Q := G.Q.drop (dueN G.Q tt), qg := qg', col := reco w1 G.col 3 }) := by
      obtain ⟨ge, F, he⟩ := HL.out.ed
      exact ⟨⟨ge, F, he.same rfl rfl rfl rfl rfl rfl⟩, HL.out.q.symm, rfl, fun s => ⟨fun k => ⟨k, fun i hi => absurd hi (Nat.not_lt_zero i)⟩, fun k => k.1⟩, fun s _ => rfl, rfl, ⟨rfl, rfl, rfl, rfl⟩, rfl⟩
    have HNL : Hid (dueN G.Q tt ≤ G.Q.length) := dueN_le _ _
    have HLK : Hid (TkL w b G (dueN G.Q tt) 0 tt (.slice ao (dueN G.Q tt) cp) { G with now := tt, Q := G.Q.drop (dueN G.Q tt), qg := qg', col := reco w1 G.col 3 } w2) := ⟨HI2.out, HT2.out, HRW.out, by have h1 := HNF.out; intro x hx; exact h1 x (by cases ao <;> exact hx)⟩
    have HDN : Hid (∀ G', TkI G (dueN G.Q tt) (dueN G.Q tt) tt G' → WnL G' (all.filter fun r => decide (tt < r.t + G.W))) := by
      show ∀ G', _
      intro G' hti
      have hz0 := clk_zero HZ.out (by obtain ⟨ge, F, he⟩ := HL.out.ed; exact he.cfg.2.2.2.2.1) HL.out.now.1
      exact hti.done HL.out (by rw [HL.out.q]; exact H.out.fo.que.sorted) ⟨by have := HL.out.now.1; omega, HT.out.2⟩
    clear HT2 HRW HNF HI2 HDU c6
    have HNB : Hid (dueN G.Q tt ≤ 65536) := by
      show _ ≤ _
      have h1 := HNL.out
      have h2 := H.out.sch.obj.good.len
      have h3 := H.out.sch.obj.perm.length_eq
      have h4 := H.out.sch.obj.hs
      obtain ⟨ge, F, he⟩ := HL.out.ed
      have h5 := he.cfg
      omega
    generalize dueN G.Q tt = n at *
    go_loopw [27] (fun s27 wr => ∃ (k : Nat) (Gk : WnG), k ≤ n ∧ s27 = .int .i64 (k : Int) ∧ TkL w b G n k tt (.slice ao n cp) Gk wr) (fun s27 _ => n - (intOf s27).toNat)
    case atStart => exact ⟨0, _, Nat.zero_le _, rfl, HLK.out⟩
    case round =>
      obtain ⟨k, Gk, hk, rfl, htk⟩ := hrel
      have HTK := Lib.hid htk
      clear htk HLK
      by_cases hlt : k < n
      · have t1 : decide ((k : Int) < (n : Int)) = true := decide_eq_true (by omega)
        have t2 : decide (k < n) = true := decide_eq_true hlt
        have hwk : IntKind.i64.wrap ((k : Int) + 1) = (k : Int) + 1 := IntWalk.i64_in _ (by have := HNB.out; omega)
        obtain ⟨s, hs1, hs2, hs3⟩ := HTK.out.ti.next HL.out hlt HNL.out
        obtain ⟨g3, cap3, hv3, _, _, hg3, hc3, _⟩ := owns_form HTK.out.row (by omega)
        injection hv3 with q1 _ q3
        subst q1 q3
        have cl : wr.cell? ⟨g3, k, none⟩ = some (.int .i64 (s : Int)) := by
          rw [hc3 k (by omega), List.getElem?_map, List.getElem?_take, if_pos hlt]
          have hkl : k < G.Q.length := by have := HNL.out; omega
          rw [List.getElem?_eq_getElem hkl, ← ent_eq hkl, hs1]
          rfl
        have ti2 : (k : Int) < (n : Int) := by omega
        obtain ⟨ge, F, he⟩ := HTK.out.ti.ed
        have HE := Lib.hid he
        have HS1 := Lib.hid hs1
        have HS3 := Lib.hid hs3
        have HKN := Lib.hid hlt
        have c7 := HTK.out.st.mem.c7
        have HEX := Lib.hid (fo_expire wr Gk.fp Gk.f ge Gk.g.Lv F HTK.out.st.mem.fo he.fo s _ _ hs2)
        clear hs1 hs2 hs3 hc3 hg3 he hlt
        go_upto_region 10 with (go_at_call 24; refine HEX.out.mono ?_; rintro e w3 ⟨rfl, f', F', hst, hfp, hfV, hfS, hfQ⟩; have HI3 := Lib.hid (HTK.out.st.mem.sFo hst); have HFP := Lib.hid hfp; have HFE : Hid (f'.V = Gk.f.V ∧ f'.S = Gk.f.S ∧ f'.Q = G.Q.drop (k + 1)) := ⟨hfV, hfS, hfQ⟩; clear hst hfp hfV hfS hfQ)
        have c5 := HI3.out.mem.c5
        have HRM := Lib.hid (st_remove w3 Gk.sp Gk.g HI3.out.mem.sto HE.out.stl s HS3.out)
        clear cl c7 HEX
        go_upto_region 11 with (go_at_call 25; refine HRM.out.mono ?_; rintro e w4 hpo; obtain ⟨g', he, hst, hsl, hgV, hgE, hgl, hgLv, hgR, hgT⟩ := hpo.ex; subst he)
        have HI4 := Lib.hid (HI3.out.trans (HI3.out.mem.sSto hst))
        have HGS : Hid (StL g' ∧ g'.V = Gk.g.V ∧ g'.E = Gk.g.E ∧ g'.last = Gk.g.last ∧ g'.Lv = (fun x => Gk.g.Lv x ∧ x ≠ s) ∧ (∀ t, t ≠ s → g'.R t = Gk.g.R t) ∧ ∀ i, g'.LvT i → Gk.g.LvT i ∧ g'.D i = Gk.g.D i) := ⟨hsl, hgV, hgE, hgl, hgLv, hgR, hgT⟩
        clear hst hsl hgV hgE hgl hgLv hgR hgT hpo c5 HRM HI3
        obtain ⟨m, hm⟩ := u64_wrap_nat ((Gk.exp : Int) + 1)
        have c9 := HI4.out.mem.c9
        have f9 := HI4.out.mem.box.free 9
        have HI5 := Lib.hid (HI4.out.trans (HI4.out.mem.sExp m))
        obtain ⟨G5, HI6, HT6⟩ : ∃ G5, Hid (WnS b Gk wr G5 (w4.setCell ⟨b, 9, none⟩ (.int .u64 (m : Int)))) ∧ Hid (TkI G n (k + 1) tt G5) := by
          refine ⟨_, HI5, ?_⟩
          obtain ⟨s1, s2, s3, s4, s5, s6, s7⟩ := HGS.out
          obtain ⟨t1, t2, t3⟩ := HFE.out
          exact HTK.out.ti.round HS1.out HS3.out (exs := ⟨ge, F, F', HE.out, HFP.out⟩) t1 t2 t3 (s1.tight (fun k => g'.FA k ∧ k < w4.heap.size) (fun k => g'.FT k ∧ k < w4.heap.size)) s2 s3 s4 s5 s6 s7 rfl rfl ⟨rfl, rfl, rfl, rfl⟩ rfl rfl rfl
        have HLK := Lib.hid (HTK.out.step HI6.out HT6.out)
        clear HI4 HI5 HI6 HT6 HTK HGS HFE HFP HE
        go_wp2_with fail
        go_roundw
        case rel => exact ⟨k + 1, G5, HKN.out, by go_num, HLK.out⟩
        case measure => have := HKN.out; simp [intOf]; omega
      · have t1 : decide ((k : Int) < (n : Int)) = false := decide_eq_false (by omega)
        have t2 : decide (k < n) = false := decide_eq_false hlt
        obtain rfl : k = n := by omega
        go_wp2_with fail
        go_ret
        refine ⟨by rw [HZ.out]; rfl, Gk, HTK.out.st, HTK.out.ti.cfg, HTK.out.ti.add, fun _ => ⟨HDN.out Gk HTK.out.ti, HTK.out.ti.now⟩, fun k => absurd HZ.out k⟩
  · have HZ := Lib.hid hz
    have t1 : (clkE G.W G.now tt == 0) = false := by rw [beq_eq_false_iff_ne]; exact hz
    have t1' : decide (clkE G.W G.now tt = 0) = false := decide_eq_false hz
    go_wp2_with (first | (go_at_call 18; refine HV.out.mono ?_; rintro e w' ⟨rfl, rfl⟩) | (go_at_call 22; refine HAD.out.mono ?_; rintro e w1 ⟨rfl, ho, hmd⟩; rw [if_neg HZ.out] at ho; have HI1 := Lib.hid (H.out.sClk hmd ho); clear ho hmd))
    go_ret
    exact ⟨rfl, _, HI1.out, ⟨rfl, rfl, rfl, rfl⟩, rfl, fun k => absurd k HZ.out, fun _ => ⟨HL.out, rfl⟩⟩
end Go.Proofs.YtlooaipipmiijaaGreat

namespace Go.Proofs.YtlooaipipmiijaaGreat
set_option linter.unusedVariables false
set_option linter.unusedSimpArgs false
open Go.RowKit
def WnV (b : Nat) (G : WnG) (w w' : World) : Prop := ∃ col, WnS b G w { G with col := col } w'
theorem WnV.below {b : Nat} {G : WnG} {w w' : World} (h : WnM w b G) (hb : Below w.heap.size w w') : WnV b G w w' := ⟨G.col, (WnS.refl h).below hb⟩
theorem WnL.col {G : WnG} {all : List Rcd} (h : WnL G all) (col : Nat → Nat) : WnL { G with col := col } all := by
  obtain ⟨⟨ge, F, he⟩, h2, h3, h4, h5⟩ := h
  exact ⟨⟨ge, F, he.same rfl rfl rfl rfl rfl rfl⟩, h2, h3, h4, h5⟩
set_option maxHeartbeats 1000000 in
theorem wn_ends_yes (w : World) (b : Nat) (G : WnG) (h : WnM w b G) (u v i j : Nat) (hi : gix G.g.LvT G.g.D u = some i) (hj : gix G.g.LvT G.g.D v = some j) :
    Calls Tryz.prog 26 #[.pointer (some ⟨b, 0, none⟩), .int .u64 (u : Int), .int .u64 (v : Int)] w (RetB (.tuple #[.int .i64 (i : Int), .int .i64 (j : Int), .int .i64 0]) w) := by
  have HV := Lib.hid (wn_valid b G.cp w h.c4)
  have HI := st_index w G.sp G.g h.sto u
  rw [hi] at HI
  replace HI := Lib.hid HI
  have H := Lib.hid h
  have HJ : Hid (∀ w1, Below w.heap.size w w1 → Calls Tryz.prog 50 #[.pointer (some ⟨G.sp, 0, none⟩), .int .u64 (v : Int)] w1 (RetB (.tuple #[.int .i64 (j : Int), .bool true]) w1)) := by
    show ∀ w1, _
    intro w1 hb
    have := st_index w1 G.sp G.g (h.below hb).sto v
    rw [hj] at this
    exact this
  have c5 := h.c5
  clear h hi hj
  go_enter Tryz.func26, Tryz.ntmps26
  go_upto_region 4 with (first | (go_at_call 18; refine HV.out.mono ?_; rintro e w' ⟨rfl, rfl⟩) | (go_at_call 50; refine HI.out.mono ?_; rintro e w1 ⟨rfl, hb⟩; have HB1 := Lib.hid hb; clear hb))
  replace c5 := (H.out.below HB1.out).c5
  have HJ2 := Lib.hid (HJ.out w1 HB1.out)
  go_wp2_with (go_at_call 50; refine HJ2.out.mono ?_; rintro e w2 ⟨rfl, hb⟩; have HB2 := Lib.hid (bel_next HB1.out hb); clear hb)
  go_ret3
  exact ⟨rfl, HB2.out⟩
set_option maxHeartbeats 1000000 in
theorem wn_ends_no (w : World) (b : Nat) (G : WnG) (h : WnM w b G) (u v : Nat) (hn : (gix G.g.LvT G.g.D u).isSome = false ∨ (gix G.g.LvT G.g.D v).isSome = false) :
    Calls Tryz.prog 26 #[.pointer (some ⟨b, 0, none⟩), .int .u64 (u : Int), .int .u64 (v : Int)] w (RetB (.tuple #[.int .i64 0, .int .i64 0, .int .i64 13]) w) := by
  have HV := Lib.hid (wn_valid b G.cp w h.c4)
  have HI := Lib.hid (st_index w G.sp G.g h.sto u)
  have H := Lib.hid h
  have HJ : Hid (∀ w1, Below w.heap.size w w1 → Calls Tryz.prog 50 #[.pointer (some ⟨G.sp, 0, none⟩), .int .u64 (v : Int)] w1 (RetB (.tuple #[.int .i64 (((gix G.g.LvT G.g.D v).getD 0 : Nat) : Int), .bool (gix G.g.LvT G.g.D v).isSome]) w1)) := by
    show ∀ w1, _
    intro w1 hb
    exact st_index w1 G.sp G.g (h.below hb).sto v
  have c5 := h.c5
  clear h
  have HN := Lib.hid hn
  clear hn
  generalize (gix G.g.LvT G.g.D u).isSome = bu at *
  generalize (gix G.g.LvT G.g.D v).isSome = bv at *
  generalize (gix G.g.LvT G.g.D u).getD 0 = iu at *
  generalize (gix G.g.LvT G.g.D v).getD 0 = iv at *
  go_enter Tryz.func26, Tryz.ntmps26
  go_upto_region 4 with (first | (go_at_call 18; refine HV.out.mono ?_; rintro e w' ⟨rfl, rfl⟩) | (go_at_call 50; refine HI.out.mono ?_; rintro e w1 ⟨rfl, hb⟩; have HB1 := Lib.hid hb; clear hb))
  replace c5 := (H.out.below HB1.out).c5
  have HJ2 := Lib.hid (HJ.out w1 HB1.out)
  clear HJ HI HV
  have hn := HN.out
  cases bu
  · go_wp2_with (go_at_call 50; refine HJ2.out.mono ?_; rintro e w2 ⟨rfl, hb⟩; have HB2 := Lib.hid (bel_next HB1.out hb); clear hb)
    go_ret3
    exact ⟨rfl, HB2.out⟩
  · obtain rfl : bv = false := by rcases hn with hn | hn; cases hn; exact hn
    go_wp2_with (go_at_call 50; refine HJ2.out.mono ?_; rintro e w2 ⟨rfl, hb⟩; have HB2 := Lib.hid (bel_next HB1.out hb); clear hb)
    go_ret3
    exact ⟨rfl, HB2.out⟩
end Go.Proofs.YtlooaipipmiijaaGreat

namespace Go.Proofs.YtlooaipipmiijaaGreat
set_option linter.unusedVariables false
set_option linter.unusedSimpArgs false
open Go.RowKit
theorem WnV.trans {b : Nat} {G : WnG} {w w1 w2 : World} (h : WnM w b G) (hb : Below w.heap.size w w1) (k : FoS G.fp G.f w1 G.f w2) : WnV b G w w2 :=
  ⟨_, ((WnS.refl h).below hb).trans (((WnS.refl h).below hb).mem.sFo k)⟩
theorem WnE.lt {G : WnG} {ge : Nat → GE} {F : Nat → Prop} (h : WnE G ge F) {i : Nat} (hi : G.g.LvT i) : i < G.f.V := by
  rw [h.fV, ← h.gV]; exact h.stl.ids.lvT i hi
structure WnCo (w : World) (b : Nat) (G : WnG) (R : Prop) (e : Ending) (w' : World) : Prop where
  val : ∃ c : Bool, e = .returned (.tuple #[.bool c, .int .i64 0]) ∧ (c = true ↔ R)
  st : WnV b G w w'
structure WnRt (w : World) (b : Nat) (G : WnG) (v : Value) (e : Ending) (w' : World) : Prop where
  val : e = .returned v
  st : WnV b G w w'
set_option maxHeartbeats 1000000 in
theorem wn_connected (w : World) (b : Nat) (G : WnG) (h : WnM w b G) {ge : Nat → GE} {F : Nat → Prop} (he : WnE G ge F) (u v i j : Nat) (hi : gix G.g.LvT G.g.D u = some i) (hj : gix G.g.LvT G.g.D v = some j) :
    Calls Tryz.prog 13 #[.pointer (some ⟨b, 0, none⟩), .int .u64 (u : Int), .int .u64 (v : Int)] w (WnCo w b G (Rch (Lnk ge G.g.Lv) i j)) := by
  have H := Lib.hid h
  have HE := Lib.hid (wn_ends_yes w b G h u v i j hi hj)
  have HC : Hid (∀ w1, Below w.heap.size w w1 → Calls Tryz.prog 33 #[.pointer (some ⟨G.fp, 0, none⟩), .int .i64 (i : Int), .int .i64 (j : Int)] w1 (FoCo w1 G.fp G.f (Rch (Lnk ge G.g.Lv) i j))) :=
    fun w1 hb => fo_connected w1 G.fp G.f ge G.g.Lv F (h.below hb).fo he.fo i j (he.lt (gix_is hi).1) (he.lt (gix_is hj).1)
  clear h he hi hj
  go_enter Tryz.func13, Tryz.ntmps13
  go_upto_region 4 with (go_at_call 26; refine HE.out.mono ?_; rintro e w1 ⟨rfl, hb⟩; have HB1 := Lib.hid hb; clear hb)
  have c7 := (H.out.below HB1.out).c7
  have HC2 := Lib.hid (HC.out w1 HB1.out)
  go_wp2_with (go_at_call 33; refine HC2.out.mono ?_; rintro e w2 ⟨⟨c, rfl, hc⟩, hst⟩; have HCC := Lib.hid hc; have HST := Lib.hid (WnV.trans H.out HB1.out hst); clear hc hst)
  go_ret2
  exact ⟨⟨_, rfl, HCC.out⟩, HST.out⟩
set_option maxHeartbeats 1000000 in
theorem wn_connected_no (w : World) (b : Nat) (G : WnG) (h : WnM w b G) (u v : Nat) (hn : (gix G.g.LvT G.g.D u).isSome = false ∨ (gix G.g.LvT G.g.D v).isSome = false) :
    Calls Tryz.prog 13 #[.pointer (some ⟨b, 0, none⟩), .int .u64 (u : Int), .int .u64 (v : Int)] w (WnRt w b G (.tuple #[.bool false, .int .i64 13])) := by
  have H := Lib.hid h
  have HE := Lib.hid (wn_ends_no w b G h u v hn)
  clear h hn
  go_enter Tryz.func13, Tryz.ntmps13
  go_wp2_with (go_at_call 26; refine HE.out.mono ?_; rintro e w1 ⟨rfl, hb⟩; have HB1 := Lib.hid hb; clear hb)
  go_ret2
  exact ⟨rfl, WnV.below H.out HB1.out⟩
structure WnUn (w : World) (b : Nat) (G : WnG) (ge : Nat → GE) (i j : Nat) (e : Ending) (w' : World) : Prop where
  yes : i ≠ j → Rch (Lnk ge G.g.Lv) i j → ∃ ex, e = .returned (.tuple #[.int .i64 ex, .bool true, .int .i64 0]) ∧ (∃ m, G.g.Lv m ∧ ex = (ge m).exp) ∧ Rch (Lnk ge fun s => G.g.Lv s ∧ ex ≤ (ge s).exp) i j ∧ ¬ Rch (Lnk ge fun s => G.g.Lv s ∧ ex < (ge s).exp) i j
  no : i = j ∨ ¬ Rch (Lnk ge G.g.Lv) i j → e = .returned (.tuple #[.int .i64 0, .bool false, .int .i64 0])
  st : WnV b G w w'
set_option maxHeartbeats 1000000 in
theorem wn_until (w : World) (b : Nat) (G : WnG) (h : WnM w b G) {ge : Nat → GE} {F : Nat → Prop} (he : WnE G ge F) (u v i j : Nat) (hi : gix G.g.LvT G.g.D u = some i) (hj : gix G.g.LvT G.g.D v = some j) :
    Calls Tryz.prog 10 #[.pointer (some ⟨b, 0, none⟩), .int .u64 (u : Int), .int .u64 (v : Int)] w (WnUn w b G ge i j) := by
  have H := Lib.hid h
  have HE := Lib.hid (wn_ends_yes w b G h u v i j hi hj)
  have hil := he.lt (gix_is hi).1
  have hjl := he.lt (gix_is hj).1
  by_cases hij : i = j
  · subst hij
    have HC : Hid (∀ w1, Below w.heap.size w w1 → Calls Tryz.prog 27 #[.pointer (some ⟨G.fp, 0, none⟩), .int .i64 (i : Int), .int .i64 (i : Int)] w1 (Ret (.tuple #[.int .i64 0, .bool false]) w1)) :=
      fun w1 hb => fo_until_eq w1 G.fp G.f (h.below hb).fo i hil
    clear h he hi hj hil hjl
    go_enter Tryz.func10, Tryz.ntmps10
    go_upto_region 4 with (go_at_call 26; refine HE.out.mono ?_; rintro e w1 ⟨rfl, hb⟩; have HB1 := Lib.hid hb; clear hb)
    have c7 := (H.out.below HB1.out).c7
    have HC2 := Lib.hid (HC.out w1 HB1.out)
    go_wp2_with (go_at_call 27; refine HC2.out.mono ?_; rintro e w2 ⟨rfl, rfl⟩)
    go_ret3
    exact ⟨fun k => absurd rfl k, fun _ => rfl, WnV.below H.out HB1.out⟩
  · have HC : Hid (∀ w1, Below w.heap.size w w1 → Calls Tryz.prog 27 #[.pointer (some ⟨G.fp, 0, none⟩), .int .i64 (i : Int), .int .i64 (j : Int)] w1 (FoUn w1 G.fp G.f ge G.g.Lv i j)) :=
      fun w1 hb => fo_until w1 G.fp G.f ge G.g.Lv F (h.below hb).fo he.fo i j hil hjl hij
    have HIJ := Lib.hid hij
    clear h he hi hj hil hjl hij
    by_cases hr : Rch (Lnk ge G.g.Lv) i j
    · have HR := Lib.hid hr
      clear hr
      go_enter Tryz.func10, Tryz.ntmps10
      go_upto_region 4 with (go_at_call 26; refine HE.out.mono ?_; rintro e w1 ⟨rfl, hb⟩; have HB1 := Lib.hid hb; clear hb)
      have c7 := (H.out.below HB1.out).c7
      have HC2 := Lib.hid (HC.out w1 HB1.out)
      go_wp2_with (go_at_call 27; refine HC2.out.mono ?_; rintro e w2 hu; obtain ⟨ex, rfl, hx⟩ := hu.yes HR.out; have HX := Lib.hid hx; have HST := Lib.hid (WnV.trans H.out HB1.out hu.st); clear hu hx)
      go_ret3
      exact ⟨fun _ _ => ⟨ex, rfl, HX.out⟩, fun k => by rcases k with k | k; exact absurd k HIJ.out; exact absurd HR.out k, HST.out⟩
    · have HR := Lib.hid hr
      clear hr
      go_enter Tryz.func10, Tryz.ntmps10
      go_upto_region 4 with (go_at_call 26; refine HE.out.mono ?_; rintro e w1 ⟨rfl, hb⟩; have HB1 := Lib.hid hb; clear hb)
      have c7 := (H.out.below HB1.out).c7
      have HC2 := Lib.hid (HC.out w1 HB1.out)
      go_wp2_with (go_at_call 27; refine HC2.out.mono ?_; rintro e w2 hu; obtain rfl := hu.no HR.out; have HST := Lib.hid (WnV.trans H.out HB1.out hu.st); clear hu)
      go_ret3
      exact ⟨fun _ k => absurd k HR.out, fun _ => rfl, HST.out⟩
set_option maxHeartbeats 1000000 in
theorem wn_until_no (w : World) (b : Nat) (G : WnG) (h : WnM w b G) (u v : Nat) (hn : (gix G.g.LvT G.g.D u).isSome = false ∨ (gix G.g.LvT G.g.D v).isSome = false) :
    Calls Tryz.prog 10 #[.pointer (some ⟨b, 0, none⟩), .int .u64 (u : Int), .int .u64 (v : Int)] w (WnRt w b G (.tuple #[.int .i64 0, .bool false, .int .i64 13])) := by
  have H := Lib.hid h
  have HE := Lib.hid (wn_ends_no w b G h u v hn)
  clear h hn
  go_enter Tryz.func10, Tryz.ntmps10
  go_wp2_with (go_at_call 26; refine HE.out.mono ?_; rintro e w1 ⟨rfl, hb⟩; have HB1 := Lib.hid hb; clear hb)
  go_ret3
  exact ⟨rfl, WnV.below H.out HB1.out⟩
set_option maxHeartbeats 1000000 in
theorem wn_size (w : World) (b : Nat) (G : WnG) (h : WnM w b G) {ge : Nat → GE} {F : Nat → Prop} (he : WnE G ge F) (u i : Nat) (hi : gix G.g.LvT G.g.D u = some i) :
    Calls Tryz.prog 38 #[.pointer (some ⟨b, 0, none⟩), .int .u64 (u : Int)] w (WnRt w b G (.tuple #[.int .i64 (cntP (fun x => Rch (Lnk ge G.g.Lv) i x) G.f.V : Int), .int .i64 0])) := by
  have H := Lib.hid h
  have HE := Lib.hid (wn_ends_yes w b G h u u i i hi hi)
  have HC : Hid (∀ w1, Below w.heap.size w w1 → Calls Tryz.prog 78 #[.pointer (some ⟨G.fp, 0, none⟩), .int .i64 (i : Int)] w1 (FoIn w1 G.fp G.f (.int .i64 (cntP (fun x => Rch (Lnk ge G.g.Lv) i x) G.f.V : Int)))) :=
    fun w1 hb => fo_size w1 G.fp G.f ge G.g.Lv F (h.below hb).fo he.fo i (he.lt (gix_is hi).1)
  clear h he hi
  generalize cntP (fun x => Rch (Lnk ge G.g.Lv) i x) G.f.V = m at *
  go_enter Tryz.func38, Tryz.ntmps38
  go_upto_region 4 with (go_at_call 26; refine HE.out.mono ?_; rintro e w1 ⟨rfl, hb⟩; have HB1 := Lib.hid hb; clear hb)
  have c7 := (H.out.below HB1.out).c7
  have HC2 := Lib.hid (HC.out w1 HB1.out)
  go_wp2_with (go_at_call 78; refine HC2.out.mono ?_; rintro e w2 ⟨rfl, hst⟩; have HST := Lib.hid (WnV.trans H.out HB1.out hst); clear hst)
  go_ret2
  exact ⟨rfl, HST.out⟩
structure WnLv (w : World) (b : Nat) (G : WnG) (n : Nat) (e : Ending) (w' : World) : Prop where
  ex : ∃ ao cp, e = .returned (.slice ao n cp)
  st : WnV b G w w'
set_option maxHeartbeats 1000000 in
theorem wn_live (w : World) (b : Nat) (G : WnG) (h : WnM w b G) {ge : Nat → GE} {F : Nat → Prop} (he : WnE G ge F) :
    Calls Tryz.prog 37 #[.pointer (some ⟨b, 0, none⟩)] w (WnLv w b G (cntP G.g.Lv G.g.E)) := by
  have H := Lib.hid h
  have HV := Lib.hid (wn_valid b G.cp w h.c4)
  have HL := Lib.hid (st_list w G.sp G.g h.sto he.stl)
  have c5 := h.c5
  clear h he
  go_enter Tryz.func37, Tryz.ntmps37
  go_wp2_with (first | (go_at_call 18; refine HV.out.mono ?_; rintro e w' ⟨rfl, rfl⟩) | (go_at_call 77; refine HL.out.mono ?_; rintro e w1 ⟨⟨v, S, rfl, h1, h2, h3, h4, h5⟩, hb⟩; obtain ⟨ao, cp, rfl⟩ := owns_slice h4; have HB := Lib.hid hb; have HN := Lib.hid h3; clear h1 h2 h4 h5 hb h3))
  go_ret
  exact ⟨⟨ao, cp, by rw [← HN.out]; rfl⟩, WnV.below H.out HB.out⟩
end Go.Proofs.YtlooaipipmiijaaGreat

namespace Go.Proofs.YtlooaipipmiijaaGreat
set_option linter.unusedVariables false
set_option linter.unusedSimpArgs false
open Go.RowKit
theorem wi_keep {b : Nat} {G : WnG} {w w1 : World} (h : Hid (WnM w b G)) (hb : Below w.heap.size w w1) : w1.cell? ⟨b, 5, none⟩ = some (.pointer (some ⟨G.sp, 0, none⟩)) ∧ w1.cell? ⟨b, 7, none⟩ = some (.pointer (some ⟨G.fp, 0, none⟩)) ∧ Below w.heap.size w w1 := ⟨(h.out.below hb).c5, (h.out.below hb).c7, hb⟩
set_option maxHeartbeats 2000000 in
set_option maxRecDepth 100000 in
theorem wn_count (w : World) (b : Nat) (G : WnG) (h : WnM w b G) {ge : Nat → GE} {F : Nat → Prop} (he : WnE G ge F) :
    Calls Tryz.prog 35 #[.pointer (some ⟨b, 0, none⟩)] w (RetB (.tuple #[.int .i64 (cntP G.g.Lv G.g.E : Int), .int .i64 (cntP G.g.LvT G.g.V : Int), .int .i64 ((cntP G.g.LvT G.g.V : Int) - G.f.tr)]) w) := by
  have H := Lib.hid h
  have HV := Lib.hid (wn_valid b G.cp w h.c4)
  have HVE := Lib.hid (st_verts w G.sp G.g h.sto)
  have HLN : Hid (∀ w1, Below w.heap.size w w1 → Calls Tryz.prog 75 #[.pointer (some ⟨G.sp, 0, none⟩)] w1 (Ret (.int .i64 (cntP G.g.Lv G.g.E : Int)) w1)) := fun w1 hb => st_len w1 G.sp G.g (h.below hb).sto
  have HCN : Hid (∀ w1, Below w.heap.size w w1 → Calls Tryz.prog 76 #[.pointer (some ⟨G.fp, 0, none⟩)] w1 (RetB (.int .i64 ((G.f.V : Int) - G.f.tr)) w1)) := fun w1 hb => fo_count w1 G.fp G.f ge G.g.Lv F (h.below hb).fo he.fo
  have htr := he.fo.trb
  have hcf := he.cfg
  have hfv := he.fV
  have hle := cntP_le (P := G.g.LvT) G.g.V
  have hgv := he.gV
  have c5 := h.c5
  have c2 := h.c2
  clear h he
  generalize cntP G.g.Lv G.g.E = ne at *
  generalize cntP G.g.LvT G.g.V = n at *
  rw [hfv] at HCN
  generalize G.f.tr = tr at *
  have hw1 : IntKind.i64.wrap ((G.V : Int) - (n : Int)) = (G.V : Int) - (n : Int) := IntWalk.i64_in _ (by omega)
  have hw2 : IntKind.i64.wrap ((G.V : Int) - tr - ((G.V : Int) - (n : Int))) = (n : Int) - tr := by rw [IntWalk.i64_in _ (by omega)]; omega
  clear htr hcf hfv hle hgv
  go_enter Tryz.func35, Tryz.ntmps35
  go_upto_region 5 with (first | (go_at_call 18; refine HV.out.mono ?_; rintro e w' ⟨rfl, rfl⟩) | (go_at_call 74; refine HVE.out.mono ?_; rintro e w' ⟨rfl, rfl⟩))
  clear c5 c2
  go_region_held3 (fun w' => w'.cell? ⟨b, 5, none⟩ = some (.pointer (some ⟨G.sp, 0, none⟩)) ∧ w'.cell? ⟨b, 7, none⟩ = some (.pointer (some ⟨G.fp, 0, none⟩)) ∧ Below w.heap.size w w')
    (((try go_split_ands); refine wi_keep H ?_; first | assumption | exact (Below.refl _ _) | exact (Below.refl _ _).drew | exact (Below.drew (by assumption))))
    (first | (go_at_call 75; (try go_split_ands); refine (HLN.out _ (by assumption)).mono ?_; rintro e w' ⟨rfl, rfl⟩) | (go_at_call 76; (try go_split_ands); refine (HCN.out _ (by assumption)).mono ?_; rintro e w5 ⟨rfl, hb⟩; have hbx := bel_next (by assumption) hb; clear hb))
  all_goals
    go_wp2_with fail
    go_ret3
    refine ⟨rfl, by assumption⟩
end Go.Proofs.YtlooaipipmiijaaGreat
