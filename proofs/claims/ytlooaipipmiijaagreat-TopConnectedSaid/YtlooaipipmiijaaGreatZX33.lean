/- Several texts in one: FoF, FoH, FoN, ECopy. -/
import Derived.Test.YtlooaipipmiijaaGreatZX17
import Derived.Test.YtlooaipipmiijaaGreatZX31
import Derived.Test.YtlooaipipmiijaaGreatZX32
import Derived.BigQuiet
namespace Go.Proofs.YtlooaipipmiijaaGreat
set_option linter.unusedVariables false
set_option linter.unusedSimpArgs false
open Go.RowKit
structure FoEx (w : World) (b : Nat) (f : FoG) (g : Nat → GE) (L : Nat → Prop) (s : Nat) (Q' : List Ent) (e : Ending) (w' : World) : Prop where
  val : e = .returned (.tuple #[.int .i64 (s : Int), .bool true])
  out : ∃ f' F', FoS b f w f' w' ∧ FoP f' g (fun t => L t ∧ t ≠ s) F' ∧ f'.V = f.V ∧ f'.S = f.S ∧ f'.Q = Q'
structure FlB (T : TypeId) (w : World) (b : Nat) (f : FoG) (z : Nat) (cs : List Value) (fk : FoG) (W : World) : Prop where
  st : FoS b f w fk W
  bz : Blk W z T cs
  nz : ¬ fk.foot b z
  zs : w.heap.size ≤ z
theorem FlB.start {T : TypeId} {w W : World} {b : Nat} {f fk : FoG} (h : FoS b f w fk W) (cs : List Value) : FlB T w b f W.heap.size cs fk (W.alloc (.cells cs.toArray T)) :=
  ⟨h.below (bel_alloc W _), Blk.new W _ cs, fun e => by have := h.mem.foot_lt _ e; omega, h.mod.size⟩
theorem FlB.below {T : TypeId} {w W W1 : World} {b z : Nat} {f fk : FoG} {cs : List Value} (h : FlB T w b f z cs fk W) (hb : Below W.heap.size W W1) : FlB T w b f z cs fk W1 := ⟨h.st.below hb, h.bz.below hb h.bz.lt, h.nz, h.zs⟩
theorem FlB.step {T : TypeId} {w W W1 : World} {b z : Nat} {f fk f2 : FoG} {cs : List Value} (h : FlB T w b f z cs fk W) (k : FoS b fk W f2 W1) : FlB T w b f z cs f2 W1 :=
  ⟨h.st.trans k, (k.box h.bz h.nz).1, (k.box h.bz h.nz).2, h.zs⟩
set_option maxHeartbeats 2000000 in
set_option maxRecDepth 100000 in
theorem fo_expire (w : World) (b : Nat) (f : FoG) (g : Nat → GE) (L F : Nat → Prop) (h : FoM w b f) (hp : FoP f g L F) (s : Nat) (k : Int) (Q' : List Ent) (hQ : f.Q = ((s : Int), k) :: Q') :
    Calls Tryz.prog 24 #[.pointer (some ⟨b, 0, none⟩)] w (FoEx w b f g L s Q') := by
  have H := Lib.hid h
  have HP := Lib.hid hp
  have HQ := Lib.hid hQ
  have hst := h.que.sorted
  obtain ⟨hLs, hke, hnb⟩ := hp.toFoP0.first hQ hst
  have HST := Lib.hid hst
  have HLS := Lib.hid hLs
  have HNB := Lib.hid hnb
  obtain ⟨h1, h2, h3, h4, h5⟩ := hp.ls s hLs
  have HL1 : Hid (s < f.S ∧ (g s).a < f.V ∧ (g s).b < f.V ∧ (g s).a ≠ (g s).b) := ⟨h1, h2, h3, h4⟩
  have HSZ := Lib.hid hp.sz
  have hs16 : s < 16384 := by have := hp.sz; omega
  have HV := Lib.hid (fo_valid b f.mb w h.s4)
  have c3 := h.s3
  have HPO := Lib.hid (pop_some w f.qb f.S ((s : Int), k) Q' f.qg (by have := h.que; rwa [hQ] at this))
  clear h hp hQ hst hLs hke hnb h1 h2 h3 h4 h5
  go_enter Tryz.func24, Tryz.ntmps24
  go_upto_region 4 with (first | (go_at_call 55; refine HV.out.mono ?_; rintro e w' ⟨rfl, rfl⟩) | (go_at_call 56; refine HPO.out.mono ?_; rintro e w1 ⟨rfl, qg, ho, hmd, hft⟩; have HI1 := Lib.hid (H.out.sQue hmd ho hft); clear ho hmd hft))
  have HI2 : Hid (FlB 99 w b f w1.heap.size [.int .i64 (s : Int), .int .i64 k] _ (w1.alloc (.cells #[.int .i64 (s : Int), .int .i64 k] 99))) := FlB.start HI1.out _
  generalize hcol : reco w f.col 2 = col at *
  clear HI1 HPO HV c3 hcol
  generalize w1.alloc (.cells #[.int .i64 (s : Int), .int .i64 k] 99) = w2 at *
  generalize w1.heap.size = z at *
  by_cases hF : F s
  · have HF := Lib.hid hF
    have hm : f.fm (s : Int) = some (edV (g s).a (g s).b (g s).exp true) := by rw [HP.out.fm]; exact fmF_yes HLS.out hF
    have HM := Lib.hid hm
    go_upto_region 6 with fail
    refine region_tailD 7 (by kernel_rfl) (by kernel_rfl) ?_
    intro w3 hw3
    have HI3 := Lib.hid (HI2.out.below hw3.self)
    clear hw3 HI2
    have c4 := HI3.out.st.mem.s4
    have z0 := HI3.out.bz.cell (i := 0) rfl
    have hlk := HI3.out.st.mem.map.look Tryz.underlying3 Tryz.underlying113 (Tryz.zeroEdge w3) (i := (s : Int)) (wf_i64K (by omega) (by omega))
    replace hlk : (Instr.lookup 113 (.map (some f.mb)) (.int .i64 (s : Int)) false).run Tryz.prog w3 = .ok ((f.fm (s : Int)).getD (.agg #[.int .i64 0, .int .i64 0, .int .i64 0, .bool false])) w3 := hlk
    rw [hm] at hlk
    replace hlk : (Instr.lookup 113 (.map (some f.mb)) (.int .i64 (s : Int)) false).run Tryz.prog w3 = .ok (.agg #[.int .i64 ((g s).a : Int), .int .i64 ((g s).b : Int), .int .i64 (g s).exp, .bool true]) w3 := hlk
    have hfd : (Instr.field 117 (.agg #[.int .i64 ((g s).a : Int), .int .i64 ((g s).b : Int), .int .i64 (g s).exp, .bool true]) 3).run Tryz.prog w3 = .ok (.bool true) w3 := by kernel_rfl
    clear hF hm
    simp only [List.take_succ_cons, List.take_zero, List.drop_succ_cons, List.drop_zero]
    repeat still_step
    refine wpStill_nil ?_
    clear hlk c4
    have HLO : Hid (Calls Tryz.prog 57 #[.pointer (some ⟨b, 0, none⟩), .int .i64 (s : Int)] w3 (FoLo w3 b { f with Q := Q', qg := qg, col := col } s (g s).a (g s).b (g s).exp)) := by
      obtain ⟨h1, h2, h3, h4⟩ := HL1.out
      obtain ⟨e1, e2, _⟩ := ef_del (fun s hs => ⟨(HP.out.ls s (HP.out.FL s hs)).1, (HP.out.ls s (HP.out.FL s hs)).2.2.2.1⟩) HF.out HP.out.eE
      have hz := HSZ.out
      have ht := HP.out.trb
      exact fo_loosen w3 b { f with Q := Q', qg := qg, col := col } HI3.out.st.mem s (g s).a (g s).b (g s).exp h1 h2 h3 h4 HM.out e1 e2 (by show f.S ≤ 65536 ∧ f.V ≤ 65536; omega) HP.out.cb (by show 0 ≤ f.tr ∧ f.tr ≤ 65536; omega)
    go_upto_region 8 with (go_at_call 57; refine HLO.out.mono ?_; rintro e w4 ⟨rfl, ho⟩; have HI4 := Lib.hid (HI3.out.step ho); clear ho)
    clear z0 HLO HI3
    refine region_tailD 6 (by kernel_rfl) (by kernel_rfl) ?_
    intro w5 hw5
    have HI5 := Lib.hid (HI4.out.below hw5.self)
    clear hw5 HI4
    have c4 := HI5.out.st.mem.s4
    have z0 := HI5.out.bz.cell (i := 0) rfl
    simp only [List.take_succ_cons, List.take_zero, List.drop_succ_cons, List.drop_zero]
    repeat still_step
    refine wpStill_nil ?_
    clear c4 z0
    refine wpList_dropK rfl _ _ rfl Tryz.underlying3 Tryz.underlying113 rfl HI5.out.st.mem.map (i := (s : Int)) (wf_i64K (by omega) (by omega)) (c' := f.c - 1) (by show (if ((if (s : Int) = (s : Int) then some (edV (g s).a (g s).b (g s).exp false) else f.fm (s : Int))).isSome = true then _ else _) = _; rw [if_pos rfl]; rfl) rfl ?_
    intro w6 hmk hmd
    have HI6 := Lib.hid (HI5.out.step (HI5.out.st.mem.sMap hmd hmk))
    clear hmk hmd HI5
    have z0 := HI6.out.bz.cell (i := 0) rfl
    go_wp2_with fail
    go_ret2
    refine ⟨rfl, _, fun t => F t ∧ t ≠ s, HI6.out.st, ?_, rfl, rfl, rfl⟩
    have h1 := (HP.out.toFoP0.loosen HF.out).drop HQ.out HST.out (fun k => k.2 rfl) qg col
    exact ⟨h1, HP.out.span.drop HNB.out⟩
  · have HF := Lib.hid hF
    have hm : f.fm (s : Int) = some (edV (g s).a (g s).b (g s).exp false) := by rw [HP.out.fm]; exact fmF_no HLS.out hF
    have HM := Lib.hid hm
    go_upto_region 6 with fail
    refine region_tailD 7 (by kernel_rfl) (by kernel_rfl) ?_
    intro w3 hw3
    have HI3 := Lib.hid (HI2.out.below hw3.self)
    clear hw3 HI2
    have c4 := HI3.out.st.mem.s4
    have z0 := HI3.out.bz.cell (i := 0) rfl
    have hlk := HI3.out.st.mem.map.look Tryz.underlying3 Tryz.underlying113 (Tryz.zeroEdge w3) (i := (s : Int)) (wf_i64K (by omega) (by omega))
    replace hlk : (Instr.lookup 113 (.map (some f.mb)) (.int .i64 (s : Int)) false).run Tryz.prog w3 = .ok ((f.fm (s : Int)).getD (.agg #[.int .i64 0, .int .i64 0, .int .i64 0, .bool false])) w3 := hlk
    rw [hm] at hlk
    replace hlk : (Instr.lookup 113 (.map (some f.mb)) (.int .i64 (s : Int)) false).run Tryz.prog w3 = .ok (.agg #[.int .i64 ((g s).a : Int), .int .i64 ((g s).b : Int), .int .i64 (g s).exp, .bool false]) w3 := hlk
    have hfd : (Instr.field 117 (.agg #[.int .i64 ((g s).a : Int), .int .i64 ((g s).b : Int), .int .i64 (g s).exp, .bool false]) 3).run Tryz.prog w3 = .ok (.bool false) w3 := by kernel_rfl
    clear hF hm
    simp only [List.take_succ_cons, List.take_zero, List.drop_succ_cons, List.drop_zero]
    repeat still_step
    refine wpStill_nil ?_
    clear hlk c4
    go_upto_region 8 with fail
    clear z0
    refine region_tailD 6 (by kernel_rfl) (by kernel_rfl) ?_
    intro w5 hw5
    have HI5 := Lib.hid (HI3.out.below hw5.self)
    clear hw5 HI3
    have c4 := HI5.out.st.mem.s4
    have z0 := HI5.out.bz.cell (i := 0) rfl
    simp only [List.take_succ_cons, List.take_zero, List.drop_succ_cons, List.drop_zero]
    repeat still_step
    refine wpStill_nil ?_
    clear c4 z0
    refine wpList_dropK rfl _ _ rfl Tryz.underlying3 Tryz.underlying113 rfl HI5.out.st.mem.map (i := (s : Int)) (wf_i64K (by omega) (by omega)) (c' := f.c - 1) (by show (if (f.fm (s : Int)).isSome = true then _ else _) = _; rw [HM.out]; rfl) rfl ?_
    intro w6 hmk hmd
    have HI6 := Lib.hid (HI5.out.step (HI5.out.st.mem.sMap hmd hmk))
    clear hmk hmd HI5
    have z0 := HI6.out.bz.cell (i := 0) rfl
    go_wp2_with fail
    go_ret2
    refine ⟨rfl, _, F, HI6.out.st, ?_, rfl, rfl, rfl⟩
    have h1 := HP.out.toFoP0.drop HQ.out HST.out HF.out qg col
    refine ⟨h1, ?_⟩
    have h2 := HP.out.span.drop HNB.out
    have e : (fun t => F t ∧ t ≠ s) = F := funext fun t => propext ⟨fun k => k.1, fun k => ⟨k, fun c => HF.out (c ▸ k)⟩⟩
    rw [e] at h2
    exact h2
end Go.Proofs.YtlooaipipmiijaaGreat

namespace Go.Proofs.YtlooaipipmiijaaGreat
set_option linter.unusedVariables false
set_option linter.unusedSimpArgs false
open Go.RowKit
structure FoCo (w : World) (b : Nat) (f : FoG) (R : Prop) (e : Ending) (w' : World) : Prop where
  val : ∃ c : Bool, e = .returned (.bool c) ∧ (c = true ↔ R)
  st : FoS b f w f w'
structure FoIn (w : World) (b : Nat) (f : FoG) (v : Value) (e : Ending) (w' : World) : Prop where
  val : e = .returned v
  st : FoS b f w f w'
theorem fo_lconn (w : World) (b : Nat) (f : FoG) (g : Nat → GE) (L F : Nat → Prop) (h : FoM w b f) (hp : FoP f g L F) {x y : Nat} (hx : x < f.V) (hy : y < f.V) :
    Calls Tryz.prog 73 #[.pointer (some ⟨f.lp, 0, none⟩), .int .i64 ((f.S + x : Nat) : Int), .int .i64 ((f.S + y : Nat) : Int)] w (FoCo w b f (Rch (Lnk g L) x y)) := by
  obtain ⟨N, ed, h1, h2, h3⟩ := hp.toFoP0.fg h
  refine (lc_connected w f.lp f.lg (f.S + f.V) f.E f.key N ed h1 h3 (f.S + x) (f.S + y) (by omega) (by omega)).mono ?_
  rintro e w' ⟨⟨c, rfl, hc⟩, ⟨N', ho1, ho2⟩, hmd⟩
  exact ⟨⟨c, rfl, hc.trans (hp.toFoP0.rch.trans hp.conn)⟩, h.sLct (hmd.mono (fun k _ e => .inl e)) ⟨N', ed, ho1, ho2⟩⟩
noncomputable def foN (f : FoG) (x : Nat) : Nat := cntP (fun u => VV (f.S + f.V) u ∧ Rch f.E (f.S + x + 1) u) (f.S + f.V + 1)
theorem foN_is {w : World} {b : Nat} {f : FoG} {g : Nat → GE} {L F : Nat → Prop} (h : FoM w b f) (hp : FoP f g L F) {x : Nat} (hx : x < f.V) : foN f x + 1 = 2 * cntP (fun v => Rch (Lnk g L) x v) f.V := by
  obtain ⟨N, ed, h1, h2, h3⟩ := hp.toFoP0.fg h
  have hE : f.E = EF f.S g F := funext fun x => funext fun y => propext (hp.eE x y)
  have := h2.count hx
  unfold foN
  rw [hE]
  exact this.trans (congrArg (fun z => 2 * z) (cntP_congr f.V fun v hv => hp.conn))
theorem fo_lsize (w : World) (b : Nat) (f : FoG) (g : Nat → GE) (L F : Nat → Prop) (h : FoM w b f) (hp : FoP f g L F) {x : Nat} (hx : x < f.V) :
    Calls Tryz.prog 118 #[.pointer (some ⟨f.lp, 0, none⟩), .int .i64 ((f.S + x : Nat) : Int)] w (FoIn w b f (.int .i64 (foN f x : Int))) := by
  obtain ⟨N, ed, h1, h2, h3⟩ := hp.toFoP0.fg h
  refine (lc_size w f.lp f.lg (f.S + f.V) f.E f.key N ed h1 h3 (f.S + x) (by omega)).mono ?_
  rintro e w' ⟨rfl, ⟨N', ho1, ho2⟩, hmd⟩
  exact ⟨rfl, h.sLct (hmd.mono (fun k _ e => .inl e)) ⟨N', ed, ho1, ho2⟩⟩
theorem fs_keep4 {b : Nat} {f f1 : FoG} {w w1 : World} (h : FoS b f w f1 w1) : w1.cell? ⟨b, 1, none⟩ = some (.int .i64 (f1.S : Int)) ∧ w1.cell? ⟨b, 2, none⟩ = some (.pointer (some ⟨f1.lp, 0, none⟩)) ∧ FoS b f w f1 w1 := ⟨h.mem.s1, h.mem.s2, h⟩
set_option maxHeartbeats 2000000 in
set_option maxRecDepth 100000 in
theorem fo_connected (w : World) (b : Nat) (f : FoG) (g : Nat → GE) (L F : Nat → Prop) (h : FoM w b f) (hp : FoP f g L F) (x y : Nat) (hx : x < f.V) (hy : y < f.V) :
    Calls Tryz.prog 33 #[.pointer (some ⟨b, 0, none⟩), .int .i64 (x : Int), .int .i64 (y : Int)] w (FoCo w b f (Rch (Lnk g L) x y)) := by
  have HP := Lib.hid hp
  have H0 := Lib.hid (FoS.refl h)
  have hsz := hp.sz
  have hwx : IntKind.i64.wrap ((f.S : Int) + (x : Int)) = ((f.S + x : Nat) : Int) := by rw [IntWalk.i64_in _ (by omega)]; omega
  have hwy : IntKind.i64.wrap ((f.S : Int) + (y : Int)) = ((f.S + y : Nat) : Int) := by rw [IntWalk.i64_in _ (by omega)]; omega
  clear h hp
  go_enter Tryz.func33, Tryz.ntmps33
  go_upto_region 1 with fail
  go_region_held3 (fun w' => w'.cell? ⟨b, 1, none⟩ = some (.int .i64 (f.S : Int)) ∧ w'.cell? ⟨b, 2, none⟩ = some (.pointer (some ⟨f.lp, 0, none⟩)) ∧ FoS b f w f w')
    (((try go_split_ands); refine fs_keep4 ?_; first | assumption | exact H0.out | exact (FoS.drew H0.out) | exact FoS.drew (by assumption)))
    (first | (go_at_call 63; (try go_split_ands); (first | (with_reducible refine (fo_has b f.mb f.V x _ (FoM.s4 (FoS.mem (show FoS b f w f _ by assumption))) (FoM.s0 (FoS.mem (show FoS b f w f _ by assumption))) hx).mono ?_) | (with_reducible refine (fo_has b f.mb f.V y _ (FoM.s4 (FoS.mem (show FoS b f w f _ by assumption))) (FoM.s0 (FoS.mem (show FoS b f w f _ by assumption))) hy).mono ?_)); rintro e w' ⟨rfl, rfl⟩) | (go_at_call 73; (try go_split_ands); refine (fo_lconn _ b f g L F (FoS.mem (show FoS b f w f _ by assumption)) HP.out hx hy).mono ?_; rintro e w5 ⟨⟨c, rfl, hcc⟩, hst⟩; have hI5 := FoS.trans (show FoS b f w f _ by assumption) hst; have HCC := Lib.hid hcc; clear hst hcc))
  all_goals
    go_wp2_with fail
    go_ret
    exact ⟨⟨_, rfl, HCC.out⟩, by assumption⟩
set_option maxHeartbeats 2000000 in
set_option maxRecDepth 100000 in
theorem fo_size (w : World) (b : Nat) (f : FoG) (g : Nat → GE) (L F : Nat → Prop) (h : FoM w b f) (hp : FoP f g L F) (x : Nat) (hx : x < f.V) :
    Calls Tryz.prog 78 #[.pointer (some ⟨b, 0, none⟩), .int .i64 (x : Int)] w (FoIn w b f (.int .i64 (cntP (fun v => Rch (Lnk g L) x v) f.V : Int))) := by
  have HP := Lib.hid hp
  have H0 := Lib.hid (FoS.refl h)
  have hsz := hp.sz
  have hwx : IntKind.i64.wrap ((f.S : Int) + (x : Int)) = ((f.S + x : Nat) : Int) := by rw [IntWalk.i64_in _ (by omega)]; omega
  have hnn := foN_is h hp hx
  have hcl := cntP_le (P := fun v => Rch (Lnk g L) x v) f.V
  have HA := Lib.hid (fo_has b f.mb f.V x w h.s4 h.s0 hx)
  have HLS : Hid (∀ W, FoS b f w f W → Calls Tryz.prog 118 #[.pointer (some ⟨f.lp, 0, none⟩), .int .i64 ((f.S + x : Nat) : Int)] W (FoIn W b f (.int .i64 (foN f x : Int)))) := fun W hW => fo_lsize W b f g L F hW.mem hp hx
  clear h hp
  generalize cntP (fun v => Rch (Lnk g L) x v) f.V = m at *
  generalize foN f x = n at *
  have hn1 : IntKind.i64.wrap ((n : Int) + 1) = ((2 * m : Nat) : Int) := by rw [IntWalk.i64_in _ (by omega)]; omega
  have hn2 : ((2 * m : Nat) : Int).tdiv 2 = (m : Int) := by rw [Int.tdiv_eq_ediv_of_nonneg (by omega)]; omega
  have hn3 : IntKind.i64.wrap (m : Int) = (m : Int) := IntWalk.i64_in _ (by omega)
  go_enter Tryz.func78, Tryz.ntmps78
  go_upto_region 3 with (go_at_call 63; refine HA.out.mono ?_; rintro e w' ⟨rfl, rfl⟩)
  go_region_held3 (fun w' => w'.cell? ⟨b, 1, none⟩ = some (.int .i64 (f.S : Int)) ∧ w'.cell? ⟨b, 2, none⟩ = some (.pointer (some ⟨f.lp, 0, none⟩)) ∧ FoS b f w f w')
    (((try go_split_ands); refine fs_keep4 ?_; first | assumption | exact H0.out | exact (FoS.drew H0.out) | exact FoS.drew (by assumption)))
    ((go_at_call 118; (try go_split_ands); refine (HLS.out _ (show FoS b f w f _ by assumption)).mono ?_; rintro e w5 ⟨rfl, hst⟩; have hI5 := FoS.trans (show FoS b f w f _ by assumption) hst; clear hst))
  all_goals
    go_wp2_with fail
    go_ret
    exact ⟨rfl, by assumption⟩
set_option maxHeartbeats 1000000 in
set_option maxRecDepth 100000 in
theorem fo_count (w : World) (b : Nat) (f : FoG) (g : Nat → GE) (L F : Nat → Prop) (h : FoM w b f) (hp : FoP f g L F) :
    Calls Tryz.prog 76 #[.pointer (some ⟨b, 0, none⟩)] w (RetB (.int .i64 ((f.V : Int) - f.tr)) w) := by
  have HV := Lib.hid (fo_valid b f.mb w h.s4)
  have hsz := hp.sz
  have htr := hp.trb
  have hw : IntKind.i64.wrap ((f.V : Int) - f.tr) = (f.V : Int) - f.tr := IntWalk.i64_in _ (by omega)
  have H := Lib.hid h
  clear h hp
  go_enter Tryz.func76, Tryz.ntmps76
  go_upto_region 3 with (go_at_call 55; refine HV.out.mono ?_; rintro e w' ⟨rfl, rfl⟩)
  refine region_tailD 8 (by kernel_rfl) (by kernel_rfl) ?_
  intro w2 hw2
  have HB := Lib.hid hw2.self
  have c0 := hw2.cell H.out.s0
  have c5 := hw2.cell H.out.s5
  clear hw2
  simp only [List.take_succ_cons, List.take_zero, List.drop_succ_cons, List.drop_zero]
  repeat still_step
  refine wpStill_nil ?_
  go_wp2_with fail
  go_ret
  exact ⟨rfl, HB.out⟩
structure FoUn (w : World) (b : Nat) (f : FoG) (g : Nat → GE) (L : Nat → Prop) (x y : Nat) (e : Ending) (w' : World) : Prop where
  yes : Rch (Lnk g L) x y → ∃ ex, e = .returned (.tuple #[.int .i64 ex, .bool true]) ∧ (∃ m, L m ∧ ex = (g m).exp) ∧ Rch (Lnk g fun s => L s ∧ ex ≤ (g s).exp) x y ∧ ¬ Rch (Lnk g fun s => L s ∧ ex < (g s).exp) x y
  no : ¬ Rch (Lnk g L) x y → e = .returned (.tuple #[.int .i64 0, .bool false])
  st : FoS b f w f w'
theorem until_plain {f : FoG} {g : Nat → GE} {L F : Nat → Prop} (hp : FoP f g L F) {x y m : Nat} (hF : F m) (h1 : Rch (Lnk g fun t => F t ∧ Nb g t m) x y) (h2 : ¬ Rch (Lnk g fun t => F t ∧ t ≠ m) x y) :
    (∃ n, L n ∧ (g m).exp = (g n).exp) ∧ Rch (Lnk g fun s => L s ∧ (g m).exp ≤ (g s).exp) x y ∧ ¬ Rch (Lnk g fun s => L s ∧ (g m).exp < (g s).exp) x y := by
  refine ⟨⟨m, hp.FL m hF, rfl⟩, ?_, ?_⟩
  · refine h1.mono (Lnk.mono fun t k => ⟨hp.FL t k.1, ?_⟩)
    have := k.2
    unfold Nb at this
    omega
  · intro k
    have k2 := hp.span.rch (K := fun s => (g m).exp < (g s).exp) (fun s t h n => by unfold Nb at n; omega) k
    refine h2 (k2.mono (Lnk.mono fun t k => ⟨k.1, fun c => ?_⟩))
    have := k.2
    rw [c] at this
    exact absurd this (Int.lt_irrefl _)
set_option maxHeartbeats 2000000 in
set_option maxRecDepth 100000 in
theorem fo_until (w : World) (b : Nat) (f : FoG) (g : Nat → GE) (L F : Nat → Prop) (h : FoM w b f) (hp : FoP f g L F) (x y : Nat) (hx : x < f.V) (hy : y < f.V) (hxy : x ≠ y) :
    Calls Tryz.prog 27 #[.pointer (some ⟨b, 0, none⟩), .int .i64 (x : Int), .int .i64 (y : Int)] w (FoUn w b f g L x y) := by
  have HP := Lib.hid hp
  have H0 := Lib.hid (FoS.refl h)
  have hsz := hp.sz
  have hwx : IntKind.i64.wrap ((f.S : Int) + (x : Int)) = ((f.S + x : Nat) : Int) := by rw [IntWalk.i64_in _ (by omega)]; omega
  have hwy : IntKind.i64.wrap ((f.S : Int) + (y : Int)) = ((f.S + y : Nat) : Int) := by rw [IntWalk.i64_in _ (by omega)]; omega
  have HA := Lib.hid (fo_has b f.mb f.V x w h.s4 h.s0 hx)
  have HB := Lib.hid (fo_has b f.mb f.V y w h.s4 h.s0 hy)
  have t3 : ((x : Int) == (y : Int)) = false := by rw [beq_eq_false_iff_ne]; omega
  have t3' : decide (x = y) = false := decide_eq_false hxy
  have HX := Lib.hid hxy
  clear h hp
  go_enter Tryz.func27, Tryz.ntmps27
  go_upto_region 3 with (go_at_call 63; (first | (with_reducible refine HA.out.mono ?_) | (with_reducible refine HB.out.mono ?_)); rintro e w' ⟨rfl, rfl⟩)
  clear t3 t3' HA HB
  by_cases hc : Rch (Lnk g F) x y
  · have HC := Lib.hid hc
    clear hc
    go_region_held3 (fun w' => w'.cell? ⟨b, 1, none⟩ = some (.int .i64 (f.S : Int)) ∧ w'.cell? ⟨b, 2, none⟩ = some (.pointer (some ⟨f.lp, 0, none⟩)) ∧ FoS b f w f w')
      (((try go_split_ands); refine fs_keep4 ?_; first | assumption | exact H0.out | exact (FoS.drew H0.out) | exact FoS.drew (by assumption)))
      ((go_at_call 64; (try go_split_ands); refine (fo_min _ b f g L F (FoS.mem (show FoS b f w f _ by assumption)) HP.out.toFoP0 hx hy HX.out).mono ?_; rintro e w5 ⟨hyes, hno, hst⟩; obtain ⟨m, rfl, hfm, hr1, hr2⟩ := hyes HC.out; have hI5 := FoS.trans (show FoS b f w f _ by assumption) hst; have HI5 := Lib.hid hI5; have HR := Lib.hid (until_plain HP.out hfm hr1 hr2); have HFM := Lib.hid hfm; clear hyes hno hst hr1 hr2 hfm))
    all_goals
      have hms := (HP.out.ls m (HP.out.FL m HFM.out)).1
      have hmm : f.fm (m : Int) = some (edV (g m).a (g m).b (g m).exp true) := by rw [HP.out.fm, fmF_yes (HP.out.FL m HFM.out) HFM.out]
      have hlk := HI5.out.mem.map.look Tryz.underlying3 Tryz.underlying113 (Tryz.zeroEdge w5) (i := (m : Int)) (wf_i64K (by omega) (by omega))
      rw [hmm] at hlk
      replace hlk : (Instr.lookup 113 (.map (some f.mb)) (.int .i64 (m : Int)) false).run Tryz.prog w5 = .ok (.agg #[.int .i64 ((g m).a : Int), .int .i64 ((g m).b : Int), .int .i64 (g m).exp, .bool true]) w5 := hlk
      have hfd : (Instr.field 117 (.agg #[.int .i64 ((g m).a : Int), .int .i64 ((g m).b : Int), .int .i64 (g m).exp, .bool true]) 2).run Tryz.prog w5 = .ok (.int .i64 (g m).exp) w5 := by kernel_rfl
      have c4 := HI5.out.mem.s4
      clear hmm
      go_wp2_with fail
      go_ret2
      exact ⟨fun _ => ⟨_, rfl, HR.out⟩, fun k => absurd (HP.out.conn.1 HC.out) k, HI5.out⟩
  · have HC := Lib.hid hc
    clear hc
    go_region_held3 (fun w' => w'.cell? ⟨b, 1, none⟩ = some (.int .i64 (f.S : Int)) ∧ w'.cell? ⟨b, 2, none⟩ = some (.pointer (some ⟨f.lp, 0, none⟩)) ∧ FoS b f w f w')
      (((try go_split_ands); refine fs_keep4 ?_; first | assumption | exact H0.out | exact (FoS.drew H0.out) | exact FoS.drew (by assumption)))
      ((go_at_call 64; (try go_split_ands); refine (fo_min _ b f g L F (FoS.mem (show FoS b f w f _ by assumption)) HP.out.toFoP0 hx hy HX.out).mono ?_; rintro e w5 ⟨hyes, hno, hst⟩; obtain rfl := hno HC.out; have hI5 := FoS.trans (show FoS b f w f _ by assumption) hst; have HI5 := Lib.hid hI5; clear hyes hno hst))
    all_goals
      go_wp2_with fail
      go_ret2
      exact ⟨fun k => absurd (HP.out.conn.2 k) HC.out, fun _ => rfl, HI5.out⟩
theorem fo_until_eq (w : World) (b : Nat) (f : FoG) (h : FoM w b f) (x : Nat) (hx : x < f.V) :
    Calls Tryz.prog 27 #[.pointer (some ⟨b, 0, none⟩), .int .i64 (x : Int), .int .i64 (x : Int)] w (Ret (.tuple #[.int .i64 0, .bool false]) w) := by
  have HA := Lib.hid (fo_has b f.mb f.V x w h.s4 h.s0 hx)
  have t3 : ((x : Int) == (x : Int)) = true := beq_self_eq_true _
  clear h
  go_enter Tryz.func27, Tryz.ntmps27
  go_wp2_with (go_at_call 63; refine HA.out.mono ?_; rintro e w' ⟨rfl, rfl⟩)
  go_ret2
  exact ⟨rfl, rfl⟩
end Go.Proofs.YtlooaipipmiijaaGreat

namespace Go.Proofs.YtlooaipipmiijaaGreat
set_option linter.unusedVariables false
set_option linter.unusedSimpArgs false
open Go.RowKit
structure FoNw (w : World) (V S : Nat) (e : Ending) (w' : World) : Prop where
  ex : ∃ b f, e = .returned (.tuple #[.pointer (some ⟨b, 0, none⟩), .int .i64 0]) ∧ FoM w' b f ∧ FoP f (fun _ => ⟨0, 0, 0⟩) (fun _ => False) (fun _ => False) ∧ f.V = V ∧ f.S = S ∧ f.Q = [] ∧ (∀ k, f.foot b k → w.heap.size ≤ k) ∧ w.heap.size ≤ b
  bel : Below w.heap.size w w'
def keyK (S v : Nat) (x : Nat) : Int := if S + 1 ≤ x ∧ x < S + v + 1 then 9223372036854775807 else 0
theorem keyK_zero (S : Nat) : (fun _ => 0 : Nat → Int) = keyK S 0 := funext fun x => by unfold keyK; rw [if_neg (by omega)]
theorem keyK_succ (S v : Nat) : (fun x => if x = (S + v) + 1 then (9223372036854775807 : Int) else keyK S v x) = keyK S (v + 1) := funext fun x => by
  unfold keyK
  by_cases c : x = S + v + 1
  · rw [if_pos c, if_pos (by omega)]
  · rw [if_neg c]
    by_cases d : S + 1 ≤ x ∧ x < S + v + 1
    · rw [if_pos d, if_pos (by omega)]
    · rw [if_neg d, if_neg (by omega)]
theorem fo_fresh {w w1 w2 : World} {V S lp lg : Nat} (hV : V ≤ 4096) (hS : S ≤ 16384) (hb1 : Below w.heap.size w w1) (hlo : LcO w1 lp lg (S + V) (fun _ _ => False) (keyK S V)) (hlp : w.heap.size ≤ lp) (hlg : w.heap.size ≤ lg) {qb : Nat} {qg : HG} (ho : HObj w2 qb S [] qg) (hf : ∀ k, qg.foot k → w1.heap.size ≤ k) (hb2 : Below w1.heap.size w1 w2) :
    FoNw w V S (.returned (.tuple #[.pointer (some ⟨w2.heap.size + 1, 0, none⟩), .int .i64 0])) ((w2.alloc (.map #[] 0)).alloc (.cells #[.int .i64 (V : Int), .int .i64 (S : Int), .pointer (some ⟨lp, 0, none⟩), .pointer (some ⟨qb, 0, none⟩), .map (some w2.heap.size), .int .i64 0] 115)) := by
  have s1 := hb1.size
  have s2 := hb2.size
  have hbl : Below w2.heap.size w2 ((w2.alloc (.map #[] 0)).alloc (.cells #[.int .i64 (V : Int), .int .i64 (S : Int), .pointer (some ⟨lp, 0, none⟩), .pointer (some ⟨qb, 0, none⟩), .map (some w2.heap.size), .int .i64 0] 115)) := ((Below.refl _ _).alloc (Nat.le_refl _) _).alloc (by simp) _
  have hbk : Blk ((w2.alloc (.map #[] 0)).alloc (.cells #[.int .i64 (V : Int), .int .i64 (S : Int), .pointer (some ⟨lp, 0, none⟩), .pointer (some ⟨qb, 0, none⟩), .map (some w2.heap.size), .int .i64 0] 115)) (w2.heap.size + 1) 115 [.int .i64 (V : Int), .int .i64 (S : Int), .pointer (some ⟨lp, 0, none⟩), .pointer (some ⟨qb, 0, none⟩), .map (some w2.heap.size), .int .i64 0] := Blk.new' _ _ [_, _, _, _, _, _] (by simp)
  have hmk : MapK .i64 ((w2.alloc (.map #[] 0)).alloc (.cells #[.int .i64 (V : Int), .int .i64 (S : Int), .pointer (some ⟨lp, 0, none⟩), .pointer (some ⟨qb, 0, none⟩), .map (some w2.heap.size), .int .i64 0] 115)) Tryz.prog 3 w2.heap.size 0 (fun _ => none) := (MapK.made .i64 w2 Tryz.prog 3).below (bel_alloc _ _) (by simp)
  have hl1 := hlo.lt
  obtain ⟨f, hf'⟩ : ∃ f : FoG, f = ⟨V, S, lp, lg, qb, w2.heap.size, 0, [], qg, fun _ _ => False, keyK S V, fun _ => none, 0, fun k => if k = w2.heap.size + 1 then 0 else if k = w2.heap.size then 3 else if k < w1.heap.size then 1 else 2⟩ := ⟨_, rfl⟩
  have hq := ho.rep.foot_lt
  refine ⟨⟨w2.heap.size + 1, f, rfl, ?_, ?_, by rw [hf'], by rw [hf'], by rw [hf'], ?_, by omega⟩, ((hb1.trans (hb2.mono s1)).trans (hbl.mono (by omega)))⟩
  · refine ⟨by rw [hf']; exact hbk, by rw [hf']; exact (hlo.below hb2).below hbl, by rw [hf']; exact ho.below hbl, by rw [hf']; exact hmk, by rw [hf']; exact if_pos rfl, ?_, fun k hk => ?_, ?_⟩
    · rw [hf']
      show (if lp = w2.heap.size + 1 then 0 else if lp = w2.heap.size then 3 else if lp < w1.heap.size then 1 else 2) = 1 ∧ (if lg = w2.heap.size + 1 then 0 else if lg = w2.heap.size then 3 else if lg < w1.heap.size then 1 else 2) = 1
      rw [if_neg (by omega), if_neg (by omega), if_pos (by omega), if_neg (by omega), if_neg (by omega), if_pos (by omega)]
      exact ⟨rfl, rfl⟩
    · rw [hf'] at hk ⊢
      have h1 := hf k hk
      have h2 := hq k hk
      show (if k = w2.heap.size + 1 then 0 else if k = w2.heap.size then 3 else if k < w1.heap.size then 1 else 2) = 2
      rw [if_neg (by omega), if_neg (by omega), if_neg (by omega)]
    · rw [hf']
      show (if w2.heap.size = w2.heap.size + 1 then 0 else if w2.heap.size = w2.heap.size then 3 else _) = 3
      rw [if_neg (by omega), if_pos rfl]
  · have hc0 : cntP (fun _ : Nat => False) S = 0 := cntP_none S (fun _ _ h => h)
    rw [hf']
    refine ⟨⟨fun s h => h.elim, fun s h => h, fun x y => ⟨fun h => h.elim, fun ⟨s, h, _⟩ => h⟩, fun s h => h.elim, fun v hv => ?_, fun i => ?_, fun i k => Iff.intro (fun h => absurd h List.not_mem_nil) (fun h => by obtain ⟨s, _, h, _⟩ := h; exact h.elim), by rw [hc0]; rfl, hc0.symm, ⟨hS, hV⟩⟩, fun s h => h.elim⟩
    · show keyK S V (S + v + 1) = _
      unfold keyK
      have hv' : v < V := hv
      rw [if_pos (by omega)]
    · show none = fmF _ _ _ i
      unfold fmF
      rw [if_neg (fun e => e.2)]
  · rw [hf']
    rintro k (e | e | e | e | e)
    · omega
    · have e' : k = lp := e
      omega
    · have e' : k = lg := e
      omega
    · have := hf k e; omega
    · have e' : k = w2.heap.size := e
      omega
set_option maxHeartbeats 2000000 in
set_option maxRecDepth 100000 in
theorem fo_new (w : World) (V S : Nat) (hV : V ≤ 4096) (hS : S ≤ 16384) :
    Calls Tryz.prog 43 #[.int .i64 (V : Int), .int .i64 (S : Int)] w (FoNw w V S) := by
  have hw0 : IntKind.i64.wrap ((S : Int) + (V : Int)) = ((S + V : Nat) : Int) := by rw [IntWalk.i64_in _ (by omega)]; omega
  have HLN := Lib.hid (lc_new w (S + V) (by omega))
  have t1 : decide ((V : Int) < 0) = false := decide_eq_false (by omega)
  have t2 : decide ((4096 : Int) < (V : Int)) = false := decide_eq_false (by omega)
  have t3 : decide ((S : Int) < 0) = false := decide_eq_false (by omega)
  have t4 : decide ((16384 : Int) < (S : Int)) = false := decide_eq_false (by omega)
  have u2 : decide (4096 < V) = false := decide_eq_false (by omega)
  have u4 : decide (16384 < S) = false := decide_eq_false (by omega)
  have hmm := @run_makeMap Tryz.prog
  go_enter Tryz.func43, Tryz.ntmps43
  go_upto_region 6 with (go_at_call 82; refine HLN.out.mono ?_; rintro e w1 ⟨⟨lp, lg, rfl, hlo, hlp, hlg⟩, hb1⟩; have HLO := Lib.hid hlo; have HLP : Hid (w.heap.size ≤ lp ∧ w.heap.size ≤ lg) := ⟨hlp, hlg⟩; have HB1 := Lib.hid hb1; clear hlo hlp hlg hb1)
  clear t1 t2 t3 t4 u2 u4 HLN
  go_wp2_with fail
  have HL0 : Hid (LcO w1 lp lg (S + V) (fun _ _ => False) (keyK S 0)) := by rw [← keyK_zero]; exact HLO
  clear HLO
  go_loopw [35] (fun s35 wr => ∃ v : Nat, v ≤ V ∧ s35 = .int .i64 (v : Int) ∧ LcO wr lp lg (S + V) (fun _ _ => False) (keyK S v) ∧ Below w.heap.size w wr) (fun s35 _ => V - (intOf s35).toNat)
  case atStart => exact ⟨0, Nat.zero_le _, rfl, HL0.out, HB1.out⟩
  case round =>
    obtain ⟨v, hv, rfl, hlo, hbr⟩ := hrel
    have HLO := Lib.hid hlo
    have HBR := Lib.hid hbr
    clear hlo hbr HL0
    by_cases hlt : v < V
    · have t1 : decide ((v : Int) < (V : Int)) = true := decide_eq_true (by omega)
      have t2 : decide (v < V) = true := decide_eq_true hlt
      have hwa : IntKind.i64.wrap ((S : Int) + (v : Int)) = ((S + v : Nat) : Int) := by rw [IntWalk.i64_in _ (by omega)]; omega
      have hwb : IntKind.i64.wrap ((v : Int) + 1) = (v : Int) + 1 := IntWalk.i64_in _ (by omega)
      have HLT := Lib.hid hlt
      have HST : Hid (∃ ed, Calls Tryz.prog 83 #[.pointer (some ⟨lp, 0, none⟩), .int .i64 ((S + v : Nat) : Int), .int .i64 9223372036854775807] wr (LcInt wr lp lg (S + V) (fun _ _ => False) (keyK S (v + 1)) ed (.int .i64 0))) := by
        obtain ⟨N, ed, h1, h2⟩ := HLO.out
        have := lc_set wr lp lg (S + V) (fun _ _ => False) (keyK S v) N ed h1 h2 (S + v) (by omega) 9223372036854775807
        rw [keyK_succ] at this
        exact ⟨ed, this⟩
      obtain ⟨ed, hst⟩ := HST.out
      have HS2 := Lib.hid hst
      clear HST hst hlt
      go_wp2_with (go_at_call 83; refine HS2.out.mono ?_; rintro e w2 ⟨rfl, ⟨N2, ho, hl⟩, hmd⟩; have HO2 : Hid (LcO w2 lp lg (S + V) (fun _ _ => False) (keyK S (v + 1))) := ⟨N2, ed, ho, hl⟩; have HB2 := Lib.hid (HBR.out.trans (hmd.below HBR.out.size (fun x e => by have := HLP.out.2; omega))); clear ho hl hmd)
      go_roundw
      case rel => exact ⟨v + 1, HLT.out, by go_num, HO2.out, HB2.out⟩
      case measure => have := HLT.out; simp [intOf]; omega
    · have t1 : decide ((v : Int) < (V : Int)) = false := decide_eq_false (by omega)
      have t2 : decide (v < V) = false := decide_eq_false hlt
      obtain rfl : v = V := by omega
      have HHN := Lib.hid (new_obj S wr (by omega))
      have HVS : Hid (v ≤ 4096 ∧ S ≤ 16384) := ⟨hV, hS⟩
      clear hlt hv
      have hbz : ∀ W, (Instr.build 111 #[(0, .pointer (some ⟨lp, 0, none⟩))]).run Tryz.prog W = .ok (.agg #[.pointer (some ⟨lp, 0, none⟩)]) W := fun W => by kernel_rfl
      go_upto_region 14 with (go_at_call 81; refine HHN.out.mono ?_; rintro e w2 ⟨hb2, qb, qg, ho, hqf, rfl⟩; have HO := Lib.hid ho; have HQF := Lib.hid hqf; have HB2 := Lib.hid hb2; clear ho hqf hb2)
      clear t1 t2
      have HFIN := Lib.hid (fo_fresh HVS.out.1 HVS.out.2 HBR.out HLO.out HLP.out.1 HLP.out.2 HO.out (fun k hk => Nat.le_trans (Nat.le_refl _) (HQF.out k hk)) HB2.out)
      go_wp2_with fail
      go_ret2
      exact HFIN.out
end Go.Proofs.YtlooaipipmiijaaGreat

namespace Go.Proofs.YtlooaipipmiijaaGreat
set_option linter.unusedVariables false
set_option linter.unusedSimpArgs false
open Go.RowKit
theorem cs2_keep {w w' : World} {a b : Addr} {v1 v2 : Value} (h1 : Hid (w.cell? a = some v1)) (h2 : Hid (w.cell? b = some v2)) (hb : Below w.heap.size w w') :
    w'.cell? a = some v1 ∧ w'.cell? b = some v2 ∧ Below w.heap.size w w' :=
  ⟨(hb.cell (World.block_lt_of_cell? w _ h1.out)).trans h1.out, (hb.cell (World.block_lt_of_cell? w _ h2.out)).trans h2.out, hb⟩
theorem cp_bel {w W w1 : World} (h1 : Below w.heap.size w W) (h2 : Below W.heap.size W w1) : Below w.heap.size w w1 := h1.trans (h2.mono h1.size)
structure ECopied (w : World) (slots : Nat) (S : List Ent) (e : Ending) (w' : World) : Prop where
  out : ∃ s q g, EFresh w s slots S q g w' ∧ e = .returned (.pointer (some ⟨s, 0, none⟩))
set_option maxHeartbeats 1000000 in
set_option maxRecDepth 100000 in
theorem ecopy_ok (w : World) (s slots : Nat) (S : List Ent) (q : Nat) (g : HG) (h : EObj w s slots S q g) :
    Calls Tryz.prog 30 #[.pointer (some ⟨s, 0, none⟩)] w (ECopied w slots S) := by
  have c0 := h.blk.cell (i := 0) rfl
  have c1 := h.blk.cell (i := 1) rfl
  have HO0 := Lib.hid h.obj
  have C0 := Lib.hid c0
  have C1 := Lib.hid c1
  clear h
  go_enter Tryz.func30, Tryz.ntmps30
  go_wp2_with (go_at_call 53; refine (evalid_ok s q w c1).mono ?_; rintro e w' ⟨rfl, rfl⟩)
  go_region_held3 (fun w' => w'.cell? ⟨s, 0, none⟩ = some (.int .i64 (slots : Nat)) ∧ w'.cell? ⟨s, 1, none⟩ = some (.pointer (some ⟨q, 0, none⟩)) ∧ Below w.heap.size w w')
    (((try go_split_ands); refine cs2_keep C0 C1 ?_; first | assumption | exact (Below.refl _ _).drew | exact (Below.drew (by assumption)) | exact (Below.alloc (by assumption) (Below.size (by assumption)) _)))
    (first | (go_at_call 70; (try go_split_ands); refine (copy_ok _ q slots S g ?_).mono ?_; (exact HO0.out.below (by assumption)); rintro e w3 ⟨hb3, c, g', ho, hf, rfl⟩; have hbx := cp_bel (by assumption) hb3; have HX := Lib.hid ho; have HF := Lib.hid hf; have HB3 := Lib.hid hb3; clear ho hf hb3))
  have FIN : Hid (EFresh w w3.heap.size slots S c g' (w3.alloc (.cells #[.int .i64 (slots : Nat), .pointer (some ⟨c, 0, none⟩)] 137))) := by
    refine ⟨⟨Blk.new w3 _ [_, _], HX.out.below ((Below.refl _ _).alloc (Nat.le_refl _) _), fun hh => ?_⟩, hbx.alloc hbx.size _, fun k hk => HF.out k hk, hbx.size⟩
    have := HX.out.rep.foot_lt _ hh; omega
  clear HX HF HB3
  go_wp2_with fail
  go_ret
  exact ⟨_, _, _, FIN.out, rfl⟩
end Go.Proofs.YtlooaipipmiijaaGreat
