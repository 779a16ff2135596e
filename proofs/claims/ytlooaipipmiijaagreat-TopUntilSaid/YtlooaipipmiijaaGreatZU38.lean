/- Several texts in one: WnR, WnT, WnU, WnV. -/
import Derived.Test.YtlooaipipmiijaaGreatZU36
import Derived.Test.YtlooaipipmiijaaGreatZU37
namespace Go.Proofs.YtlooaipipmiijaaGreat
set_option linter.unusedVariables false
set_option linter.unusedSimpArgs false
open Go.RowKit
theorem ro_keep {w w1 W : World} {b z u v : Nat} {wt t : Int} {G : WnG} (h : Hid (WlB 33 w b G z [.int .u64 (u : Int), .int .u64 (v : Int), .int .i64 wt, .int .i64 t] G w1)) (hb : Below w1.heap.size w1 W) :
    W.cell? ⟨b, 5, none⟩ = some (.pointer (some ⟨G.sp, 0, none⟩)) ∧ W.cell? ⟨b, 6, none⟩ = some (.pointer (some ⟨G.ep, 0, none⟩)) ∧ W.cell? ⟨z, 0, none⟩ = some (.int .u64 (u : Int)) ∧ W.cell? ⟨z, 1, none⟩ = some (.int .u64 (v : Int)) ∧ W.cell? ⟨z, 2, none⟩ = some (.int .i64 wt) ∧ W.cell? ⟨z, 3, none⟩ = some (.int .i64 t) ∧ Below w1.heap.size w1 W := by
  have k := h.out.below hb
  exact ⟨k.st.mem.c5, k.st.mem.c6, k.bz.cell (i := 0) rfl, k.bz.cell (i := 1) rfl, k.bz.cell (i := 2) rfl, k.bz.cell (i := 3) rfl, hb⟩
def BlW (w W : World) : Prop := Below w.heap.size w W
theorem WnM.schNodup {w : World} {b : Nat} {G : WnG} (h : WnM w b G) : (G.Q.map (·.1)).Nodup := (h.sch.obj.perm.map _).nodup_iff.2 h.sch.obj.good.nodup
set_option maxHeartbeats 2000000 in
set_option maxRecDepth 100000 in
theorem wn_room (w : World) (b : Nat) (G : WnG) (all : List Rcd) (h : WnM w b G) (hl : WnL G all) (u v : Nat) (wt t : Int) (hn : u ≠ v) :
    Calls Tryz.prog 20 #[.pointer (some ⟨b, 0, none⟩), .agg #[.int .u64 (u : Int), .int .u64 (v : Int), .int .i64 wt, .int .i64 t]] w (RetB (.int .i64 ((chkL G.E G.V (all.filter fun q => decide (t < q.t + G.W)) ⟨u, v, wt, t⟩ : Nat) : Int)) w) := by
  have H := Lib.hid h
  have HL := Lib.hid hl
  obtain ⟨ge, F, he⟩ := hl.ed
  have HE := Lib.hid he
  have HN := Lib.hid hn
  have HB0 := Lib.hid (WlB.start (T := 33) (WnS.refl h) [.int .u64 (u : Int), .int .u64 (v : Int), .int .i64 wt, .int .i64 t])
  have HBW : Hid (∀ W, Below (w.alloc (.cells #[.int .u64 (u : Int), .int .u64 (v : Int), .int .i64 wt, .int .i64 t] 33)).heap.size (w.alloc (.cells #[.int .u64 (u : Int), .int .u64 (v : Int), .int .i64 wt, .int .i64 t] 33)) W → BlW w W) := fun W k => bel_next (bel_alloc w _) k
  have HSO : Hid (Sorted G.Q) := by show Sorted _; rw [hl.q]; exact h.fo.que.sorted
  have hck := hl.chk he ⟨u, v, wt, t⟩ hn
  obtain ⟨ck, HCK⟩ : ∃ ck : Nat, Hid (stChk G.g u v = ck) := ⟨_, rfl⟩
  have HCA : Hid (chkL G.E G.V all ⟨u, v, wt, t⟩ = ck) := by show _ = _; rw [← hck]; exact HCK.out
  obtain ⟨CH, HCH⟩ : ∃ CH : Nat, Hid (chkL G.E G.V (all.filter fun q => decide (t < q.t + G.W)) ⟨u, v, wt, t⟩ = CH) := ⟨_, rfl⟩
  rw [HCH.out]
  clear h hl he hck hn
  go_enter Tryz.func20, Tryz.ntmps20
  go_upto_region 1 with fail
  simp only [List.toArray] at HB0
  generalize w.alloc (.cells #[.int .u64 (u : Int), .int .u64 (v : Int), .int .i64 wt, .int .i64 t] 33) = w1 at *
  generalize w.heap.size = z at *
  have HC1 : Hid (∀ W, Below w1.heap.size w1 W → Calls Tryz.prog 46 #[.pointer (some ⟨G.sp, 0, none⟩), .agg #[.int .u64 (u : Int), .int .u64 (v : Int), .int .i64 wt, .int .i64 t]] W (RetB (.int .i64 (ck : Int)) W)) := by
    show ∀ W, _
    intro W hb
    have := st_check W G.sp G.g (HB0.out.below hb).st.mem.sto u v wt t
    rw [HCK.out] at this
    exact this
  go_cut [5] (fun s5 wx => s5 = .int .i64 (ck : Int) ∧ Below w1.heap.size w1 wx)
  case first =>
    go_region_held3 (fun w' => w'.cell? ⟨b, 5, none⟩ = some (.pointer (some ⟨G.sp, 0, none⟩)) ∧ w'.cell? ⟨b, 6, none⟩ = some (.pointer (some ⟨G.ep, 0, none⟩)) ∧ w'.cell? ⟨z, 0, none⟩ = some (.int .u64 (u : Int)) ∧ w'.cell? ⟨z, 1, none⟩ = some (.int .u64 (v : Int)) ∧ w'.cell? ⟨z, 2, none⟩ = some (.int .i64 wt) ∧ w'.cell? ⟨z, 3, none⟩ = some (.int .i64 t) ∧ Below w1.heap.size w1 w')
      (((try go_split_ands); refine ro_keep HB0 ?_; first | assumption | exact (Below.refl _ _) | exact (Below.refl _ _).drew | exact (Below.drew (by assumption))))
      ((go_at_call 46; (try go_split_ands); refine (HC1.out _ (by assumption)).mono ?_; rintro e w' ⟨rfl, hb⟩; have hbx := bel_next (by assumption) hb; clear hb))
    all_goals
      go_wp2_with fail
      go_meet
      exact ⟨rfl, by assumption⟩
  case rest =>
    obtain ⟨rfl, hb⟩ := hcut
    have HB2 := Lib.hid (HB0.out.below hb)
    have HBX2 := Lib.hid hb
    clear hb HC1 HB0
    generalize wc = w2 at *
    by_cases hz : ck = 0
    · have HR : Hid (chkL G.E G.V (all.filter fun q => decide (t < q.t + G.W)) ⟨u, v, wt, t⟩ = 0) := chk_mono (by rw [HCA.out]; exact hz) _
      have HR2 : Hid (CH = 0) := HCH.out.symm.trans HR.out
      obtain rfl : CH = 0 := HR2.out
      subst hz
      go_wp2_with fail
      go_ret
      exact ⟨rfl, HBW.out _ HBX2.out⟩
    · have HZ := Lib.hid hz
      have t1 : ((ck : Int) == 0) = false := by rw [beq_eq_false_iff_ne]; omega
      have t2 : decide ((ck : Int) = 0) = false := decide_eq_false (by omega)
      have c6 := HB2.out.st.mem.c6
      rcases hQ : G.Q with _ | ⟨⟨i0, k0⟩, T⟩
      · have HR : Hid (chkL G.E G.V (all.filter fun q => decide (t < q.t + G.W)) ⟨u, v, wt, t⟩ = ck) := by
          show _ = _
          rw [none_due HL.out HE.out HSO.out (.inl hQ)]; exact HCA.out
        obtain rfl : CH = ck := HCH.out.symm.trans HR.out
        have HNX := enext_any w2 G.ep G.E G.Q G.qp G.qg HB2.out.st.mem.sch
        rw [hQ] at HNX
        replace HNX : Hid (Calls Tryz.prog 47 #[.pointer (some ⟨G.ep, 0, none⟩)] w2 (RetB (.tuple #[.agg #[.int .i64 0, .int .i64 0], .bool false]) w2)) := HNX
        go_upto_region 5 with (go_at_call 47; refine HNX.out.mono ?_; rintro e w3 ⟨rfl, hb⟩; have HB3 := Lib.hid hb; clear hb)
        have HB4 := Lib.hid (HBW.out _ (bel_next HBX2.out (bel_next HB3.out (bel_alloc w3 (.cells #[.int .i64 0, .int .i64 0] 99)))))
        go_wp2_with fail
        go_ret
        exact ⟨rfl, HB4.out⟩
      · have HNX := enext_any w2 G.ep G.E G.Q G.qp G.qg HB2.out.st.mem.sch
        rw [hQ] at HNX
        replace HNX : Hid (Calls Tryz.prog 47 #[.pointer (some ⟨G.ep, 0, none⟩)] w2 (RetB (.tuple #[.agg #[.int .i64 i0, .int .i64 k0], .bool true]) w2)) := HNX
        go_upto_region 5 with (go_at_call 47; refine HNX.out.mono ?_; rintro e w3 ⟨rfl, hb⟩; have HB3 := Lib.hid hb; clear hb)
        have HBX4 := Lib.hid (bel_next HBX2.out (bel_next HB3.out (bel_alloc w3 (.cells #[.int .i64 i0, .int .i64 k0] 99))))
        have HB4 := Lib.hid (HB2.out.below (bel_next HB3.out (bel_alloc w3 (.cells #[.int .i64 i0, .int .i64 k0] 99))))
        have HBQ := Lib.hid (Blk.new w3 99 [.int .i64 i0, .int .i64 k0])
        simp only [List.toArray] at HBQ
        clear HB3 HNX HBX2 HB2
        generalize w3.alloc (.cells #[.int .i64 i0, .int .i64 k0] 99) = w4 at *
        generalize w3.heap.size = qz at *
        clear c6
        have q1 := HBQ.out.cell (i := 1) rfl
        have z3 := HB4.out.bz.cell (i := 3) rfl
        by_cases hk : t < k0
        · have HR : Hid (chkL G.E G.V (all.filter fun q => decide (t < q.t + G.W)) ⟨u, v, wt, t⟩ = ck) := by
            show _ = _
            rw [none_due HL.out HE.out HSO.out (.inr ⟨_, T, hQ, hk⟩)]; exact HCA.out
          obtain rfl : CH = ck := HCH.out.symm.trans HR.out
          have t3 : decide (t < k0) = true := decide_eq_true hk
          go_wp2_with fail
          go_ret
          exact ⟨rfl, HBW.out _ HBX4.out⟩
        · have t3 : decide (t < k0) = false := decide_eq_false hk
          clear hQ hk
          have c5 := HB4.out.st.mem.c5
          have HSC := Lib.hid (st_copy w4 G.sp G.g HB4.out.st.mem.sto HE.out.stl)
          go_upto_region 8 with (go_at_call 29; refine HSC.out.mono ?_; rintro e w5 hpo; obtain ⟨sp, g', he, hsm, hsl, r1, r2, r3, r4, r5, r6, r7, r8, r9, hsf, hss⟩ := hpo.ex; subst he; have HB5 := Lib.hid hpo.bel; have HSM := Lib.hid hsm.tight; have HSF : Hid (∀ k, ({ g' with FA := fun k => g'.FA k ∧ k < w5.heap.size, FT := fun k => g'.FT k ∧ k < w5.heap.size } : SG).foot sp k → w4.heap.size ≤ k ∧ k < w5.heap.size) := fun k hk => ⟨hsf k (SG.tight_foot hsm k hk).2, (SG.tight_foot hsm k hk).1⟩; have HPL : Hid (RmP G 0 { g' with FA := fun k => g'.FA k ∧ k < w5.heap.size, FT := fun k => g'.FT k ∧ k < w5.heap.size }) := ⟨hsl.tight _ _, r1, r2, fun s => by show g'.Lv s ↔ _; rw [r4]; exact ⟨fun k => ⟨k, fun i hi => absurd hi (Nat.not_lt_zero i)⟩, fun k => k.1⟩, fun s _ => by show g'.R s = _; rw [r5]⟩; clear hsm hsl r1 r2 r3 r4 r5 r6 r7 r8 r9 hsf hss hpo)
          generalize ({ g' with FA := fun k => g'.FA k ∧ k < w5.heap.size, FT := fun k => g'.FT k ∧ k < w5.heap.size } : SG) = g2 at *
          clear c5 HSC q1 z3
          have HB6 := Lib.hid (HB4.out.below HB5.out)
          have HEC : Hid (∀ W, Below w5.heap.size w5 W → Calls Tryz.prog 30 #[.pointer (some ⟨G.ep, 0, none⟩)] W (fun e w' => ∃ s q g, EObj w' s G.E G.Q q g ∧ e = .returned (.pointer (some ⟨s, 0, none⟩)) ∧ Below w5.heap.size w5 w' ∧ ∀ k, g.foot k → w5.heap.size ≤ k)) := fun W hb => (ecopy_ok W G.ep G.E G.Q G.qp G.qg (HB6.out.below hb).st.mem.sch).mono fun e w' ⟨s, q, g, hef, he⟩ => ⟨s, q, g, hef.obj, he, bel_next hb hef.bel, fun k hk => Nat.le_trans hb.size (hef.foot k hk)⟩
          go_cut [49, 50, 51] (fun s49 s50 s51 wx => ∃ ao cp, s49 = .slice ao (dueN G.Q t) cp ∧ s50 = .int .i64 (dueN G.Q t : Int) ∧ s51 = .int .i64 0 ∧ Below w5.heap.size w5 wx ∧ wx.ownsRow 0 3 1 (.slice ao (dueN G.Q t) cp) (dueN G.Q t) ((G.Q.take (dueN G.Q t)).map fun e => .int .i64 e.1) ∧ ∀ x, (Value.slice ao (dueN G.Q t) cp).ownBlock = some x → w5.heap.size ≤ x)
          case first =>
            go_region_held3 (fun w' => w'.cell? ⟨b, 5, none⟩ = some (.pointer (some ⟨G.sp, 0, none⟩)) ∧ w'.cell? ⟨b, 6, none⟩ = some (.pointer (some ⟨G.ep, 0, none⟩)) ∧ w'.cell? ⟨z, 0, none⟩ = some (.int .u64 (u : Int)) ∧ w'.cell? ⟨z, 1, none⟩ = some (.int .u64 (v : Int)) ∧ w'.cell? ⟨z, 2, none⟩ = some (.int .i64 wt) ∧ w'.cell? ⟨z, 3, none⟩ = some (.int .i64 t) ∧ Below w5.heap.size w5 w')
              (((try go_split_ands); refine ro_keep HB6 ?_; first | assumption | exact (Below.refl _ _) | exact (Below.refl _ _).drew | exact (Below.drew (by assumption))))
              (first | (go_at_call 30; (try go_split_ands); refine (HEC.out _ (by assumption)).mono ?_; rintro e w6 ⟨ep, qp, qg, hob, rfl, hbx, hff⟩; have HOB := Lib.hid hob; have HFF := Lib.hid hff; have HBX := Lib.hid hbx; clear hob hff) | (go_at_call 23; (try go_split_ands); refine (edue_ok _ _ _ _ _ _ HOB.out _).mono ?_; rintro e w7 hpo; obtain ⟨v7, qg', he, ho, hrow, hmd, hft, hnf⟩ := hpo.out; subst he; obtain ⟨ao, cp, rfl⟩ := owns_slice hrow; have hby := HBX.out.trans (hmd.below HBX.out.size HFF.out); have HRW := Lib.hid hrow; have HNF : Hid (∀ x, (Value.slice ao (dueN G.Q t) cp).ownBlock = some x → w5.heap.size ≤ x) := fun x hx => Nat.le_trans HBX.out.size (hnf x (by cases ao <;> exact hx)).2.2; clear hpo ho hrow hmd hft hnf))
            all_goals
              go_wp2_with fail
              go_meet
              exact ⟨_, _, rfl, rfl, rfl, by assumption, HRW.out, HNF.out⟩
          case rest =>
            obtain ⟨ao, cp, rfl, rfl, rfl, hb, hrow, hnf⟩ := hcut
            have HRI : Hid (RmI w4 sp G (dueN G.Q t) 0 (.slice ao (dueN G.Q t) cp) g2 wc) := ⟨HSM.out.below hb, fun x hx => (HSF.out x hx).1, bel_next HB5.out hb, hrow, fun x hx hf => by have h1 := hnf x hx; have h2 := (HSF.out x hf).2; omega, HPL.out⟩
            clear hb hrow hnf HB6 HEC HSM HSF HPL HB5
            have HDN : Hid (∀ g, RmP G (dueN G.Q t) g → stChk g u v = CH) := fun g hg => (hg.done HL.out HE.out HSO.out ⟨u, v, wt, t⟩ HN.out).trans HCH.out
            have HNL : Hid (dueN G.Q t ≤ G.Q.length) := dueN_le _ _
            have HNB : Hid (dueN G.Q t ≤ 65536) := by
              show _ ≤ _
              have h1 := HNL.out
              have h2 := H.out.sch.obj.good.len
              have h3 := H.out.sch.obj.perm.length_eq
              have h4 := H.out.sch.obj.hs
              have h5 := HE.out.cfg
              omega
            generalize dueN G.Q t = n at *
            generalize wc = w6 at *
            go_wp2_with fail
            go_loopw [51] (fun s51 wr => ∃ (k : Nat) (gk : SG), k ≤ n ∧ s51 = .int .i64 (k : Int) ∧ RmI w4 sp G n k (.slice ao n cp) gk wr) (fun s51 _ => n - (intOf s51).toNat)
            case atStart => exact ⟨0, _, Nat.zero_le _, rfl, HRI.out⟩
            case round =>
              obtain ⟨k, gk, hk, rfl, hri⟩ := hrel
              clear HRI
              have HRI := Lib.hid hri
              clear hri
              by_cases hlt : k < n
              · have t4 : decide ((k : Int) < (n : Int)) = true := decide_eq_true (by omega)
                have t5 : decide (k < n) = true := decide_eq_true hlt
                have hwk : IntKind.i64.wrap ((k : Int) + 1) = (k : Int) + 1 := IntWalk.i64_in _ (by have := HNB.out; omega)
                have hkl : k < G.Q.length := by have := HNL.out; omega
                obtain ⟨s, hs1, hs2⟩ := HRI.out.pl.next HL.out HE.out H.out.schNodup hkl
                obtain ⟨g3, cap3, hv3, _, _, hg3, hc3, _⟩ := owns_form HRI.out.row (by omega)
                injection hv3 with q1 _ q3
                subst q1 q3
                have cl : wr.cell? ⟨g3, k, none⟩ = some (.int .i64 (s : Int)) := by
                  rw [hc3 k (by omega), List.getElem?_map, List.getElem?_take, if_pos hlt]
                  rw [List.getElem?_eq_getElem hkl, ← ent_eq hkl]
                  show some (Value.int .i64 (ent G.Q k).1) = _
                  rw [hs1]
                have ti2 : (k : Int) < (n : Int) := by omega
                have HS1 := Lib.hid hs1
                have HKN := Lib.hid hlt
                have HRM := Lib.hid (st_remove wr sp gk HRI.out.st HRI.out.pl.stl s hs2)
                clear hs1 hs2 hc3 hg3 hlt hkl
                go_wp2_with (go_at_call 25; refine HRM.out.mono ?_; rintro e w7 hpo; obtain ⟨g', he, hst, hsl, hgV, hgE, hgl, hgLv, hgR, hgT⟩ := hpo.ex; subst he; have HRI2 := Lib.hid (HRI.out.step hst (HRI.out.pl.step HS1.out hsl hgV hgE hgLv hgR)); clear hst hsl hgV hgE hgl hgLv hgR hgT hpo)
                go_roundw
                case rel => exact ⟨k + 1, _, HKN.out, by go_num, HRI2.out⟩
                case measure => have := HKN.out; simp [intOf]; omega
              · have t4 : decide ((k : Int) < (n : Int)) = false := decide_eq_false (by omega)
                have t5 : decide (k < n) = false := decide_eq_false hlt
                obtain rfl : k = n := by omega
                have hbz := HB4.out.bz.below HRI.out.bel HB4.out.bz.lt
                have z0 := hbz.cell (i := 0) rfl
                have z1 := hbz.cell (i := 1) rfl
                have z2 := hbz.cell (i := 2) rfl
                have z3 := hbz.cell (i := 3) rfl
                have HCF := st_check wr sp gk HRI.out.st u v wt t
                rw [HDN.out gk HRI.out.pl] at HCF
                replace HCF := Lib.hid HCF
                have HBF : Hid (Below w1.heap.size w1 wr) := Lib.hid (bel_next HBX4.out HRI.out.bel)
                clear hbz
                go_wp2_with (go_at_call 46; refine HCF.out.mono ?_; rintro e w7 ⟨rfl, hb⟩; have HB7 := Lib.hid (HBW.out _ (bel_next HBF.out hb)); clear hb)
                go_ret
                exact ⟨rfl, HB7.out⟩
end Go.Proofs.YtlooaipipmiijaaGreat

namespace Go.Proofs.YtlooaipipmiijaaGreat
set_option linter.unusedVariables false
set_option linter.unusedSimpArgs false
open Go.RowKit
def stay (W t : Int) (all : List Rcd) : List Rcd := all.filter fun q => decide (t < q.t + W)
def addE (G : WnG) (all : List Rcd) (r : Rcd) : Int := if r.u = r.v then 9 else if clkE G.W G.now r.t ≠ 0 then clkE G.W G.now r.t else (chkL G.E G.V (stay G.W r.t all) r : Nat)
structure WnAd (w : World) (b : Nat) (G : WnG) (all : List Rcd) (r : Rcd) (e : Ending) (w' : World) : Prop where
  val : e = .returned (.int .i64 (addE G all r))
  out : ∃ G', WnS b G w G' w' ∧ CfgE G G' ∧ G'.add ≤ G.add + 1 ∧ (addE G all r = 0 → WnL G' (stay G.W r.t all ++ [r]) ∧ G'.now = r.t) ∧ (addE G all r ≠ 0 → WnL G' all ∧ G'.now = G.now)
theorem ad_keep {w w1 W : World} {b z u v : Nat} {wt t : Int} {G : WnG} (h : Hid (WlB 33 w b G z [.int .u64 (u : Int), .int .u64 (v : Int), .int .i64 wt, .int .i64 t] G w1)) (hb : Below w1.heap.size w1 W) :
    W.cell? ⟨b, 4, none⟩ = some (.pointer (some ⟨G.cp, 0, none⟩)) ∧ W.cell? ⟨z, 0, none⟩ = some (.int .u64 (u : Int)) ∧ W.cell? ⟨z, 1, none⟩ = some (.int .u64 (v : Int)) ∧ W.cell? ⟨z, 2, none⟩ = some (.int .i64 wt) ∧ W.cell? ⟨z, 3, none⟩ = some (.int .i64 t) ∧ Below w1.heap.size w1 W := by
  have k := h.out.below hb
  exact ⟨k.st.mem.c4, k.bz.cell (i := 0) rfl, k.bz.cell (i := 1) rfl, k.bz.cell (i := 2) rfl, k.bz.cell (i := 3) rfl, hb⟩
set_option maxHeartbeats 2000000 in
set_option maxRecDepth 100000 in
theorem wn_add (w : World) (b : Nat) (G : WnG) (all : List Rcd) (h : WnM w b G) (hl : WnL G all) (u v : Nat) (wt t : Int) (hu : u < 18446744073709551616) (hv : v < 18446744073709551616) (ht : -9223372036854775808 ≤ t ∧ t ≤ 9223372036854775807) (had : G.add < 1000000) :
    Calls Tryz.prog 8 #[.pointer (some ⟨b, 0, none⟩), .agg #[.int .u64 (u : Int), .int .u64 (v : Int), .int .i64 wt, .int .i64 t]] w (WnAd w b G all ⟨u, v, wt, t⟩) := by
  have H := Lib.hid h
  have HL := Lib.hid hl
  obtain ⟨ge, F, he⟩ := hl.ed
  have HE := Lib.hid he
  have HU : Hid (u < 18446744073709551616 ∧ v < 18446744073709551616) := ⟨hu, hv⟩
  have HT := Lib.hid ht
  have HAD := Lib.hid had
  have HB0 := Lib.hid (WlB.start (T := 33) (WnS.refl h) [.int .u64 (u : Int), .int .u64 (v : Int), .int .i64 wt, .int .i64 t])
  have HAE : Hid (∀ x : Int, (u = v → x = 9) → (u ≠ v → clkE G.W G.now t ≠ 0 → x = clkE G.W G.now t) → (u ≠ v → clkE G.W G.now t = 0 → x = (chkL G.E G.V (stay G.W t all) ⟨u, v, wt, t⟩ : Nat)) → x = addE G all ⟨u, v, wt, t⟩) := by
    show ∀ x, _
    intro x h1 h2 h3
    unfold addE
    by_cases c : u = v
    · rw [if_pos c]; exact h1 c
    · rw [if_neg c]
      by_cases d : clkE G.W G.now t = 0
      · rw [if_neg (fun k => k d)]; exact h3 c d
      · rw [if_pos d]; exact h2 c d
  have HFIN : Hid (∀ (x : Int) (W : World) (G' : WnG), x = addE G all ⟨u, v, wt, t⟩ → WnS b G w G' W → CfgE G G' → G'.add ≤ G.add + 1 → (x = 0 → WnL G' (stay G.W t all ++ [⟨u, v, wt, t⟩]) ∧ G'.now = t) → (x ≠ 0 → WnL G' all ∧ G'.now = G.now) → WnAd w b G all ⟨u, v, wt, t⟩ (.returned (.int .i64 x)) W) := by
    show ∀ x, _
    intro x W G' h1 h2 h3 h4 h5 h6
    subst h1
    exact ⟨rfl, G', h2, h3, h4, h5, h6⟩
  generalize addE G all ⟨u, v, wt, t⟩ = ae at *
  clear h hl he hu hv ht had
  go_enter Tryz.func8, Tryz.ntmps8
  go_upto_region 1 with fail
  simp only [List.toArray] at HB0
  generalize w.alloc (.cells #[.int .u64 (u : Int), .int .u64 (v : Int), .int .i64 wt, .int .i64 t] 33) = w1 at *
  generalize hz : w.heap.size = z at *
  clear hz
  have HV := Lib.hid (wn_valid b G.cp w1 HB0.out.st.mem.c4)
  have z0 := HB0.out.bz.cell (i := 0) rfl
  have z1 := HB0.out.bz.cell (i := 1) rfl
  by_cases huv : u = v
  · subst huv
    have HR := Lib.hid (HAE.out 9 (fun _ => rfl) (fun c => absurd rfl c) (fun c => absurd rfl c))
    have t1 : ((u : Int) == (u : Int)) = true := by simp
    go_wp2_with (go_at_call 18; refine HV.out.mono ?_; rintro e w' ⟨rfl, rfl⟩)
    go_ret
    exact HFIN.out 9 _ G HR.out HB0.out.st (CfgE.refl G) (Nat.le_succ _) (fun c => by cases c) (fun _ => ⟨HL.out, rfl⟩)
  · have HN := Lib.hid huv
    have t1 : ((u : Int) == (v : Int)) = false := by rw [beq_eq_false_iff_ne]; omega
    clear huv
    go_upto_region 5 with (go_at_call 18; refine HV.out.mono ?_; rintro e w' ⟨rfl, rfl⟩)
    clear z0 z1 HV
    have HC1 : Hid (∀ W, Below w1.heap.size w1 W → Calls Tryz.prog 19 #[.pointer (some ⟨G.cp, 0, none⟩), .int .i64 t] W (fun e w' => e = .returned (.int .i64 (clkE G.W G.now t)) ∧ w' = W)) := fun W hb => clk_check W G.cp G.W G.now t (HB0.out.below hb).st.mem.clk HT.out
    obtain ⟨ck, HCK⟩ : ∃ ck, Hid (clkE G.W G.now t = ck) := ⟨_, rfl⟩
    rw [HCK.out] at HC1
    rw [HCK.out] at HAE
    go_cut [5] (fun s5 wx => s5 = .int .i64 ck ∧ Below w1.heap.size w1 wx)
    case first =>
      go_region_held3 (fun w' => w'.cell? ⟨b, 4, none⟩ = some (.pointer (some ⟨G.cp, 0, none⟩)) ∧ w'.cell? ⟨z, 0, none⟩ = some (.int .u64 (u : Int)) ∧ w'.cell? ⟨z, 1, none⟩ = some (.int .u64 (v : Int)) ∧ w'.cell? ⟨z, 2, none⟩ = some (.int .i64 wt) ∧ w'.cell? ⟨z, 3, none⟩ = some (.int .i64 t) ∧ Below w1.heap.size w1 w')
        (((try go_split_ands); refine ad_keep HB0 ?_; first | assumption | exact (Below.refl _ _) | exact (Below.refl _ _).drew | exact (Below.drew (by assumption))))
        ((go_at_call 19; (try go_split_ands); refine (HC1.out _ (by assumption)).mono ?_; rintro e w' ⟨rfl, rfl⟩))
      all_goals
        go_wp2_with fail
        go_meet
        exact ⟨rfl, by assumption⟩
    case rest =>
      obtain ⟨rfl, hb⟩ := hcut
      have HB2 := Lib.hid (HB0.out.below hb)
      clear hb HC1 HB0
      generalize wc = w2 at *
      by_cases hck : ck = 0
      · obtain ⟨cr, HCR⟩ : ∃ cr : Nat, Hid (chkL G.E G.V (stay G.W t all) ⟨u, v, wt, t⟩ = cr) := ⟨_, rfl⟩
        have HR := Lib.hid (HAE.out (cr : Int) (fun c => absurd c HN.out) (fun _ c => absurd hck c) (fun _ _ => by rw [HCR.out]))
        have HCZ : Hid (clkE G.W G.now t = 0) := HCK.out.trans hck
        subst hck
        clear HAE HCK
        have c8 := HB2.out.st.mem.c8
        have t2 : decide ((9223372036854775807 : Int) ≤ (G.add : Int)) = false := decide_eq_false (by have := HAD.out; omega)
        have z0 := HB2.out.bz.cell (i := 0) rfl
        have z1 := HB2.out.bz.cell (i := 1) rfl
        have z2 := HB2.out.bz.cell (i := 2) rfl
        have z3 := HB2.out.bz.cell (i := 3) rfl
        have HRO : Hid (Calls Tryz.prog 20 #[.pointer (some ⟨b, 0, none⟩), .agg #[.int .u64 (u : Int), .int .u64 (v : Int), .int .i64 wt, .int .i64 t]] w2 (RetB (.int .i64 (cr : Int)) w2)) := by
          have := wn_room w2 b G all HB2.out.st.mem HL.out u v wt t HN.out
          rw [show (all.filter fun q => decide (t < q.t + G.W)) = stay G.W t all from rfl, HCR.out] at this
          exact this
        by_cases hcr : cr = 0
        · subst hcr
          go_upto_region 13 with (go_at_call 20; refine HRO.out.mono ?_; rintro e w3 ⟨rfl, hb⟩; have HB3 := Lib.hid (HB2.out.below hb); clear hb)
          clear z0 z1 z2 z3 c8 HRO HB2
          have z3 := HB3.out.bz.cell (i := 3) rfl
          have HTI := Lib.hid (wn_tick w3 b G all HB3.out.st.mem HL.out t HT.out)
          go_upto_region 14 with (go_at_call 9; refine HTI.out.mono ?_; rintro e w4 hpo; obtain ⟨hval, G4, hst, hcf, had4, hok, _⟩ := hpo; subst hval; have HB4 := Lib.hid (HB3.out.step hst); have HOK := Lib.hid (hok HCZ.out); have HCF := Lib.hid hcf; have HA4 := Lib.hid had4; clear hst hcf had4 hok)
          clear z3 HTI HB3
          have z0 := HB4.out.bz.cell (i := 0) rfl
          have z1 := HB4.out.bz.cell (i := 1) rfl
          have z2 := HB4.out.bz.cell (i := 2) rfl
          have z3 := HB4.out.bz.cell (i := 3) rfl
          have HIN : Hid (Calls Tryz.prog 21 #[.pointer (some ⟨b, 0, none⟩), .agg #[.int .u64 (u : Int), .int .u64 (v : Int), .int .i64 wt, .int .i64 t]] w4 (WnIn w4 b G4 (stay G.W t all) ⟨u, v, wt, t⟩)) := by
            obtain ⟨hl4, hn4⟩ := HOK.out
            obtain ⟨ge4, F4, he4⟩ := hl4.ed
            have hk := hl4.chk he4 ⟨u, v, wt, t⟩ HN.out
            rw [HCF.out.E, HCF.out.V] at hk
            have := wn_insert w4 b G4 _ HB4.out.st.mem hl4 u v wt HU.out.1 HU.out.2 (hk.trans HCR.out) (by rw [hn4, HCF.out.W]; exact (clk_zero HCZ.out HE.out.cfg.2.2.2.2.1 HL.out.now.1).2) (by rw [HA4.out]; exact HAD.out)
            rw [hn4] at this
            exact this
          go_wp2_with (go_at_call 21; refine HIN.out.mono ?_; rintro e w5 hpo; obtain ⟨hval, G5, hst, hcf, hnw, had5, hl5⟩ := hpo; subst hval; have HB5 := Lib.hid (HB4.out.step hst); have HL5 := Lib.hid hl5; have HC5 := Lib.hid (HCF.out.trans hcf); have HA5 := Lib.hid had5; have HN5 := Lib.hid hnw; clear hst hcf hnw had5 hl5)
          go_ret
          exact HFIN.out 0 _ G5 HR.out HB5.out.st HC5.out (by rw [HA5.out, HA4.out]; exact Nat.le_refl _) (fun _ => ⟨HL5.out, HN5.out.trans HOK.out.2⟩) (fun c => absurd rfl c)
        · have t3 : ((cr : Int) == 0) = false := by rw [beq_eq_false_iff_ne]; omega
          have t4 : decide ((cr : Int) = 0) = false := decide_eq_false (by omega)
          have HZ := Lib.hid hcr
          clear hcr
          go_wp2_with (go_at_call 20; refine HRO.out.mono ?_; rintro e w3 ⟨rfl, hb⟩; have HB3 := Lib.hid (HB2.out.below hb); clear hb)
          go_ret
          exact HFIN.out (cr : Int) _ G HR.out HB3.out.st (CfgE.refl G) (Nat.le_succ _) (fun c => absurd c (by have := HZ.out; omega)) (fun _ => ⟨HL.out, rfl⟩)
      · have HR := Lib.hid (HAE.out ck (fun c => absurd c HN.out) (fun _ _ => rfl) (fun _ c => absurd c hck))
        have HZ := Lib.hid hck
        have t2 : (ck == 0) = false := by rw [beq_eq_false_iff_ne]; exact hck
        have t3 : decide (ck = 0) = false := decide_eq_false hck
        go_wp2_with fail
        go_ret
        exact HFIN.out ck _ G HR.out HB2.out.st (CfgE.refl G) (Nat.le_succ _) (fun c => absurd c HZ.out) (fun _ => ⟨HL.out, rfl⟩)
end Go.Proofs.YtlooaipipmiijaaGreat

namespace Go.Proofs.YtlooaipipmiijaaGreat
set_option linter.unusedVariables false
set_option linter.unusedSimpArgs false
open Go.RowKit
def CfgO (W E V D : Int) : Prop := 1 ≤ W ∧ 1 ≤ E ∧ E ≤ 16384 ∧ 2 ≤ V ∧ V ≤ 4096 ∧ 0 ≤ D ∧ D ≤ 16384
instance (W E V D : Int) : Decidable (CfgO W E V D) := by unfold CfgO; infer_instance
set_option maxHeartbeats 2000000 in
theorem wn_isConfig (w : World) (W E V D : Int) :
    Calls Tryz.prog 39 #[.agg #[.int .i64 W, .int .i64 E, .int .i64 V, .int .i64 D]] w (RetB (.bool (decide (CfgO W E V D))) w) := by
  have HB : Hid (Below w.heap.size w (w.alloc (.cells #[.int .i64 W, .int .i64 E, .int .i64 V, .int .i64 D] 23))) := bel_alloc w _
  have HX := Lib.hid (Blk.new w 23 [.int .i64 W, .int .i64 E, .int .i64 V, .int .i64 D])
  simp only [List.toArray] at HX
  go_enter Tryz.func39, Tryz.ntmps39
  go_upto_region 1 with fail
  generalize w.alloc (.cells #[.int .i64 W, .int .i64 E, .int .i64 V, .int .i64 D] 23) = w1 at *
  generalize hz : w.heap.size = z at *
  have c0 := HX.out.cell (i := 0) rfl
  have c1 := HX.out.cell (i := 1) rfl
  have c2 := HX.out.cell (i := 2) rfl
  have c3 := HX.out.cell (i := 3) rfl
  by_cases h0 : 1 ≤ W
  rotate_left
  · have t0 : decide ((1 : Int) ≤ W) = false := decide_eq_false h0
    have hd : decide (CfgO W E V D) = false := decide_eq_false fun c => h0 c.1
    rw [hd]
    go_wp2_with fail
    go_ret
    exact ⟨by first | rfl | (rw [hd]; rfl), by rw [hz]; exact HB.out⟩
  have t0 : decide ((1 : Int) ≤ W) = true := decide_eq_true h0
  by_cases h1 : 1 ≤ E
  rotate_left
  · have t1 : decide ((1 : Int) ≤ E) = false := decide_eq_false h1
    have hd : decide (CfgO W E V D) = false := decide_eq_false fun c => h1 c.2.1
    rw [hd]
    go_wp2_with fail
    go_ret
    exact ⟨by first | rfl | (rw [hd]; rfl), by rw [hz]; exact HB.out⟩
  have t1 : decide ((1 : Int) ≤ E) = true := decide_eq_true h1
  by_cases h2 : E ≤ 16384
  rotate_left
  · have t2 : decide (E ≤ (16384 : Int)) = false := decide_eq_false h2
    have hd : decide (CfgO W E V D) = false := decide_eq_false fun c => h2 c.2.2.1
    rw [hd]
    go_wp2_with fail
    go_ret
    exact ⟨by first | rfl | (rw [hd]; rfl), by rw [hz]; exact HB.out⟩
  have t2 : decide (E ≤ (16384 : Int)) = true := decide_eq_true h2
  by_cases h3 : 2 ≤ V
  rotate_left
  · have t3 : decide ((2 : Int) ≤ V) = false := decide_eq_false h3
    have hd : decide (CfgO W E V D) = false := decide_eq_false fun c => h3 c.2.2.2.1
    rw [hd]
    go_wp2_with fail
    go_ret
    exact ⟨by first | rfl | (rw [hd]; rfl), by rw [hz]; exact HB.out⟩
  have t3 : decide ((2 : Int) ≤ V) = true := decide_eq_true h3
  by_cases h4 : V ≤ 4096
  rotate_left
  · have t4 : decide (V ≤ (4096 : Int)) = false := decide_eq_false h4
    have hd : decide (CfgO W E V D) = false := decide_eq_false fun c => h4 c.2.2.2.2.1
    rw [hd]
    go_wp2_with fail
    go_ret
    exact ⟨by first | rfl | (rw [hd]; rfl), by rw [hz]; exact HB.out⟩
  have t4 : decide (V ≤ (4096 : Int)) = true := decide_eq_true h4
  by_cases h5 : 0 ≤ D
  rotate_left
  · have t5 : decide ((0 : Int) ≤ D) = false := decide_eq_false h5
    have hd : decide (CfgO W E V D) = false := decide_eq_false fun c => h5 c.2.2.2.2.2.1
    rw [hd]
    go_wp2_with fail
    go_ret
    exact ⟨by first | rfl | (rw [hd]; rfl), by rw [hz]; exact HB.out⟩
  have t5 : decide ((0 : Int) ≤ D) = true := decide_eq_true h5
  by_cases h6 : D ≤ 16384
  rotate_left
  · have t6 : decide (D ≤ (16384 : Int)) = false := decide_eq_false h6
    have hd : decide (CfgO W E V D) = false := decide_eq_false fun c => h6 c.2.2.2.2.2.2
    rw [hd]
    go_wp2_with fail
    go_ret
    exact ⟨by first | rfl | (rw [hd]; rfl), by rw [hz]; exact HB.out⟩
  have t6 : decide (D ≤ (16384 : Int)) = true := decide_eq_true h6
  have hd : decide (CfgO W E V D) = true := decide_eq_true ⟨h0, h1, h2, h3, h4, h5, h6⟩
  rw [hd]
  go_wp2_with fail
  go_ret
  exact ⟨by first | rfl | (rw [hd]; rfl), by rw [hz]; exact HB.out⟩
end Go.Proofs.YtlooaipipmiijaaGreat

namespace Go.Proofs.YtlooaipipmiijaaGreat
set_option linter.unusedVariables false
set_option linter.unusedSimpArgs false
open Go.RowKit
structure WnNw (w : World) (W : Int) (E V : Nat) (D : Int) (e : Ending) (w' : World) : Prop where
  ex : ∃ b G, e = .returned (.tuple #[.pointer (some ⟨b, 0, none⟩), .int .i64 0]) ∧ WnM w' b G ∧ WnL G [] ∧ (G.W = W ∧ G.E = E ∧ G.V = V ∧ G.D = D ∧ G.now = 0 ∧ G.add = 0) ∧ ∀ k, G.foot b k → w.heap.size ≤ k
  bel : Below w.heap.size w w'
theorem wn_made {w W : World} {Wd D : Int} {E V c cp sp ep fp qp z1 z2 z3 z4 : Nat} {g' : SG} {qg : HG} {f' : FoG} (hW : 1 ≤ Wd ∧ Wd ≤ 9223372036854775807) (hE : 1 ≤ E ∧ E ≤ 16384) (hV : 2 ≤ V ∧ V ≤ 4096) (hb : WpS w W c [.int .i64 Wd, .int .i64 (E : Int), .int .i64 (V : Int), .int .i64 D, .pointer (some ⟨cp, 0, none⟩), .pointer (some ⟨sp, 0, none⟩), .pointer (some ⟨ep, 0, none⟩), .pointer (some ⟨fp, 0, none⟩), .int .u64 0, .int .u64 0])
    (hc : ClkO W cp Wd 0) (hs : SgI sp g' z1 z2 W) (hq : EgI ep E [] qp qg z2 z3 W) (hf : FgI fp f' z3 z4 W) (h1 : c < cp ∧ cp < z1) (h2 : z1 ≤ z2 ∧ z2 ≤ z3)
    (hg : StL g') (gs : g'.V = V ∧ g'.E = E ∧ g'.last = 0 ∧ g'.Lv = fun _ => False) (hfp : FoP f' (fun _ => ⟨0, 0, 0⟩) (fun _ => False) (fun _ => False)) (fs : f'.V = V ∧ f'.S = E ∧ f'.Q = []) : WnNw w Wd E V D (.returned (.tuple #[.pointer (some ⟨c, 0, none⟩), .int .i64 0])) W := by
  obtain ⟨g1, g2, g3, g4⟩ := gs
  obtain ⟨f1, f2, f3⟩ := fs
  obtain ⟨G0, hG0⟩ : ∃ G0 : WnG, G0 = ⟨Wd, E, V, D, 0, cp, sp, ep, qp, fp, g', [], qg, f', 0, 0, fun _ => 0⟩ := ⟨_, rfl⟩
  have he : WnE G0 (fun _ => ⟨0, 0, 0⟩) (fun _ => False) := by
    rw [hG0]
    refine ⟨hg, g1, g2, f1, f2, ?_, fun s k => ?_, fun s k => ?_, g3, ⟨hE.1, hE.2, hV.1, hV.2, hW.1, hW.2⟩⟩
    · show FoP f' _ g'.Lv _
      rw [g4]; exact hfp
    · have k' : g'.Lv s := k
      rw [g4] at k'; exact k'.elim
    · have k' : g'.Lv s := k
      rw [g4] at k'; exact k'.elim
  have hl : WnL G0 [] := by
    refine ⟨⟨_, _, he⟩, by rw [hG0]; exact f3.symm, by rw [hG0]; exact ⟨Int.le_refl _, by show (0 : Int) ≤ 9223372036854775807; omega⟩, fun s k => ?_, [], List.nodup_nil, fun s => ?_, rfl⟩
    · rw [hG0] at k
      have k' : g'.Lv s := k
      rw [g4] at k'; exact k'.elim
    · rw [hG0]
      show s ∈ [] ↔ g'.Lv s
      rw [g4]
      exact ⟨fun h => absurd h List.not_mem_nil, fun h => h.elim⟩
  have key : WnCy w G0 [] (.returned (.pointer (some ⟨c, 0, none⟩))) W := by
    refine wn_copied (G := G0) (g' := g') (qg := qg) (f' := f') (cp := cp) (sp := sp) (ep := ep) (fp := fp) (qp := qp) (z1 := z1) (z2 := z2) (z3 := z3) (z4 := z4) hl he ?_ ?_ hs ?_ hf h1 h2 hg ?_ ?_ ?_
    · rw [hG0]; exact hb
    · rw [hG0]; exact hc
    · rw [hG0]; exact hq
    · rw [hG0]; exact ⟨rfl, rfl, rfl, rfl, rfl, rfl, rfl⟩
    · rw [hG0]
      show FoP f' _ g'.Lv _
      rw [g4]; exact hfp
    · rw [hG0]; exact ⟨rfl, rfl, rfl⟩
  obtain ⟨c', G', e, k1, k2, k3, k4, k5, k6⟩ := key.ex
  injection e with e
  injection e with e
  injection e with e
  injection e with e
  subst e
  refine ⟨⟨c, G', rfl, k1, k2, ⟨by rw [k3.W, hG0], by rw [k3.E, hG0], by rw [k3.V, hG0], by rw [k3.D, hG0], by rw [k4, hG0], by rw [k5, hG0]⟩, k6⟩, key.bel⟩
theorem clko_mod2 {w : World} {p c j : Nat} {W now : Int} {v : Value} (h : ClkO w p W now) (hc : c ≠ p) : ClkO (w.setCell ⟨c, j, none⟩ v) p W now :=
  h.mod ((Mod.refl (fun x => x = c) w).setCell ⟨c, j, none⟩ (fun _ => rfl) v) (fun e => hc e.symm)
structure FrB (w : World) (z eb c : Nat) (Wd D : Int) (E V : Nat) (vs : List Value) (W : World) : Prop where
  wp : WpS w W c vs
  bz : Blk W z 23 [.int .i64 Wd, .int .i64 (E : Int), .int .i64 (V : Int), .int .i64 D]
  be : Blk W eb 84 [.int .i64 0, .int .i64 0, .int .i64 0, .int .i64 0]
  ord : w.heap.size ≤ z ∧ z < eb ∧ eb < c
theorem FrB.up {w W W1 : World} {z eb c E V : Nat} {Wd D : Int} {vs : List Value} (h : FrB w z eb c Wd D E V vs W) (hb : Below W.heap.size W W1) : FrB w z eb c Wd D E V vs W1 :=
  ⟨h.wp.up hb, h.bz.below hb h.bz.lt, h.be.below hb h.be.lt, h.ord⟩
theorem FrB.set {w W : World} {z eb c E V : Nat} {Wd D : Int} {vs : List Value} (h : FrB w z eb c Wd D E V vs W) (j i : Nat) (v : Value) (hi : ([.int .i64 0, .int .i64 0, .int .i64 0, .int .i64 0] : List Value).set i (.int .i64 0) = [.int .i64 0, .int .i64 0, .int .i64 0, .int .i64 0]) :
    FrB w z eb c Wd D E V (vs.set j v) ((W.setCell ⟨c, j, none⟩ v).setCell ⟨eb, i, none⟩ (.int .i64 0)) := by
  have o := h.ord
  have m1 : Mod (fun x => x = c) W (W.setCell ⟨c, j, none⟩ v) := (Mod.refl (fun x => x = c) W).setCell ⟨c, j, none⟩ (fun _ => rfl) v
  have m2 : Mod (fun x => x = eb) (W.setCell ⟨c, j, none⟩ v) ((W.setCell ⟨c, j, none⟩ v).setCell ⟨eb, i, none⟩ (.int .i64 0)) := (Mod.refl (fun x => x = eb) _).setCell ⟨eb, i, none⟩ (fun _ => rfl) _
  have h1 := h.wp.set j v
  refine ⟨⟨h1.box.mod m2 (by omega), h1.bel.setCell (by show w.heap.size ≤ eb; omega) _, h1.cc⟩, (h.bz.mod m1 (by omega)).mod m2 (by omega), ?_, o⟩
  have h2 := (h.be.mod m1 (by omega)).set i (.int .i64 0)
  rw [hi] at h2
  exact h2
theorem FrB.cells {w W : World} {z eb c E V : Nat} {Wd D : Int} {vs : List Value} (h : FrB w z eb c Wd D E V vs W) :
    (W.cell? ⟨z, 0, none⟩ = some (.int .i64 Wd) ∧ W.cell? ⟨z, 1, none⟩ = some (.int .i64 (E : Int)) ∧ W.cell? ⟨z, 2, none⟩ = some (.int .i64 (V : Int)) ∧ W.cell? ⟨z, 3, none⟩ = some (.int .i64 D)) ∧ (W.cell? ⟨eb, 0, none⟩ = some (.int .i64 0) ∧ W.cell? ⟨eb, 1, none⟩ = some (.int .i64 0) ∧ W.cell? ⟨eb, 2, none⟩ = some (.int .i64 0) ∧ W.cell? ⟨eb, 3, none⟩ = some (.int .i64 0)) ∧ (∀ j, W.frozen? ⟨eb, j, none⟩ = false) ∧ ∀ j, W.frozen? ⟨c, j, none⟩ = false :=
  ⟨⟨h.bz.cell (i := 0) rfl, h.bz.cell (i := 1) rfl, h.bz.cell (i := 2) rfl, h.bz.cell (i := 3) rfl⟩, ⟨h.be.cell (i := 0) rfl, h.be.cell (i := 1) rfl, h.be.cell (i := 2) rfl, h.be.cell (i := 3) rfl⟩, h.be.free, h.wp.box.free⟩
end Go.Proofs.YtlooaipipmiijaaGreat
