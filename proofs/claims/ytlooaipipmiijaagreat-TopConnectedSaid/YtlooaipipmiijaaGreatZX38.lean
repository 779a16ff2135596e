/- Several texts in one: WnT, WnU, WnV, WnW. -/
import Derived.Test.YtlooaipipmiijaaGreatZX36
import Derived.Test.YtlooaipipmiijaaGreatZX37
namespace Go.Proofs.YtlooaipipmiijaaGreat
set_option linter.unusedVariables false
set_option linter.unusedSimpArgs false
open Go.RowKit
def stay (W t : Int) (all : List Rcd) : List Rcd := all.filter fun q => decide (t < q.t + W)
def addE (G : WnG) (all : List Rcd) (r : Rcd) : Int := if r.u = r.v then 9 else if clkE G.W G.now r.t ≠ 0 then clkE G.W G.now r.t else (chkL G.E G.V (stay G.W r.t all) r : Nat)
structure WnAd (w : World) (b : Nat) (G : WnG) (all : List Rcd) (r : Rcd) (e : Ending) (w' : World) : Prop where
  val : e = .returned (.int .i64 (addE G all r))
  out : ∃ G', WnS b G w G' w' ∧ CfgE G G' ∧ G'.add ≤ G.add + 1 ∧ (addE G all r = 0 → WnL G' (stay G.W r.t all ++ [r]) ∧ G'.now = r.t) ∧ (addE G all r ≠ 0 → WnL G' all ∧ G'.now = G.now)
theorem ad_keep {w w1 W : World} {b z u v : Nat} {wt t : Int} {G : WnG} (h : Hid (WlB 33 w b G z [.int .u64 (u : Int), .int .u64 (v : Int), .int .i64 wt, .int .i64 t] G w1)) (hb : Below w1.heap.size w1 W) :
    W.cell? ⟨b, 4, none⟩ = some (.pointer (some ⟨G.cp, 0, none⟩)) ∧ W.cell? ⟨z, 0, none⟩ = some (.int .u64 (u : Int)) ∧ W.cell? ⟨z, 1, none⟩ = some (.int .u64 (v : Int)) ∧ W.cell? ⟨z, 2, none⟩ = some (.int .i64 wt) ∧ W.cell? ⟨z, 3, none⟩ = some (.int .i64 t) ∧ Below w1.heap.size w1 W := by
  have k := h.out.below hb
  exact ⟨k.st.mem.c4, k.bz.cell (i := 0) rfl, k.bz.cell (i := 1) rfl, k.bz.cell (i := 2) rfl, k.bz.cell (i := 3) rfl, hb⟩
set_option maxHeartbeats 2000000 in
set_option maxRecDepth 100000 in
theorem wn_add (w : World) (b : Nat) (G : WnG) (all : List Rcd) (h : WnM w b G) (hl : WnL G all) (u v : Nat) (wt t : Int) (hu : u < 18446744073709551616) (hv : v < 18446744073709551616) (ht : -9223372036854775808 ≤ t ∧ t ≤ 9223372036854775807) (had : G.add < 1000000) :
    Calls Tryz.prog 8 #[.pointer (some ⟨b, 0, none⟩), .agg #[.int .u64 (u : Int), .int .u64 (v : Int), .int .i64 wt, .int .i64 t]] w (WnAd w b G all ⟨u, v, wt, t⟩) := by
  have H := Lib.hid h
  have HL := Lib.hid hl
  obtain ⟨ge, F, he⟩ := hl.ed
  have HE := Lib.hid he
  have HU : Hid (u < 18446744073709551616 ∧ v < 18446744073709551616) := ⟨hu, hv⟩
  have HT := Lib.hid ht
  have HAD := Lib.hid had
  have HB0 := Lib.hid (WlB.start (T := 33) (WnS.refl h) [.int .u64 (u : Int), .int .u64 (v : Int), .int .i64 wt, .int .i64 t])
  have HAE : Hid (∀ x : Int, (u = v → x = 9) → (u ≠ v → clkE G.W G.now t ≠ 0 → x = clkE G.W G.now t) → (u ≠ v → clkE G.W G.now t = 0 → x = (chkL G.E G.V (stay G.W t all) ⟨u, v, wt, t⟩ : Nat)) → x = addE G all ⟨u, v, wt, t⟩) := by
    show ∀ x, _
    intro x h1 h2 h3
    unfold addE
    by_cases c : u = v
    · rw [if_pos c]; exact h1 c
    · rw [if_neg c]
      by_cases d : clkE G.W G.now t = 0
      · rw [if_neg (fun k => k d)]; exact h3 c d
      · rw [if_pos d]; exact h2 c d
  have HFIN : Hid (∀ (x : Int) (W : World) (G' : WnG), x = addE G all ⟨u, v, wt, t⟩ → WnS b G w G' W → CfgE G G' → G'.add ≤ G.add + 1 → (x = 0 → WnL G' (stay G.W t all ++ [⟨u, v, wt, t⟩]) ∧ G'.now = t) → (x ≠ 0 → WnL G' all ∧ G'.now = G.now) → WnAd w b G all ⟨u, v, wt, t⟩ (.returned (.int .i64 x)) W) := by
    show ∀ x, _
    intro x W G' h1 h2 h3 h4 h5 h6
    subst h1
    exact ⟨rfl, G', h2, h3, h4, h5, h6⟩
  generalize addE G all ⟨u, v, wt, t⟩ = ae at *
  clear h hl he hu hv ht had
  go_enter Tryz.func8, Tryz.ntmps8
  go_upto_region 1 with fail
  simp only [List.toArray] at HB0
  generalize w.alloc (.cells #[.int .u64 (u : Int), .int .u64 (v : Int), .int .i64 wt, .int .i64 t] 33) = w1 at *
  generalize hz : w.heap.size = z at *
  clear hz
  have HV := Lib.hid (wn_valid b G.cp w1 HB0.out.st.mem.c4)
  have z0 := HB0.out.bz.cell (i := 0) rfl
  have z1 := HB0.out.bz.cell (i := 1) rfl
  by_cases huv : u = v
  · subst huv
    have HR := Lib.hid (HAE.out 9 (fun _ => rfl) (fun c => absurd rfl c) (fun c => absurd rfl c))
    have t1 : ((u : Int) == (u : Int)) = true := by simp
    go_wp2_with (go_at_call 18; refine HV.out.mono ?_; rintro e w' ⟨rfl, rfl⟩)
    go_ret
    exact HFIN.out 9 _ G HR.out HB0.out.st (CfgE.refl G) (Nat.le_succ _) (fun c => by cases c) (fun _ => ⟨HL.out, rfl⟩)
  · have HN := Lib.hid huv
    have t1 : ((u : Int) == (v : Int)) = false := by rw [beq_eq_false_iff_ne]; omega
    clear huv
    go_upto_region 5 with (go_at_call 18; refine HV.out.mono ?_; rintro e w' ⟨rfl, rfl⟩)
    clear z0 z1 HV
    have HC1 : Hid (∀ W, Below w1.heap.size w1 W → Calls Tryz.prog 19 #[.pointer (some ⟨G.cp, 0, none⟩), .int .i64 t] W (fun e w' => e = .returned (.int .i64 (clkE G.W G.now t)) ∧ w' = W)) := fun W hb => clk_check W G.cp G.W G.now t (HB0.out.below hb).st.mem.clk HT.out
    obtain ⟨ck, HCK⟩ : ∃ ck, Hid (clkE G.W G.now t = ck) := ⟨_, rfl⟩
    rw [HCK.out] at HC1
    rw [HCK.out] at HAE
    go_cut [5] (fun s5 wx => s5 = .int .i64 ck ∧ Below w1.heap.size w1 wx)
    case first =>
      go_region_held3 (fun w' => w'.cell? ⟨b, 4, none⟩ = some (.pointer (some ⟨G.cp, 0, none⟩)) ∧ w'.cell? ⟨z, 0, none⟩ = some (.int .u64 (u : Int)) ∧ w'.cell? ⟨z, 1, none⟩ = some (.int .u64 (v : Int)) ∧ w'.cell? ⟨z, 2, none⟩ = some (.int .i64 wt) ∧ w'.cell? ⟨z, 3, none⟩ = some (.int .i64 t) ∧ Below w1.heap.size w1 w')
        (((try go_split_ands); refine ad_keep HB0 ?_; first | assumption | exact (Below.refl _ _) | exact (Below.refl _ _).drew | exact (Below.drew (by assumption))))
        ((go_at_call 19; (try go_split_ands); refine (HC1.out _ (by assumption)).mono ?_; rintro e w' ⟨rfl, rfl⟩))
      all_goals
        go_wp2_with fail
        go_meet
        exact ⟨rfl, by assumption⟩
    case rest =>
      obtain ⟨rfl, hb⟩ := hcut
      have HB2 := Lib.hid (HB0.out.below hb)
      clear hb HC1 HB0
      generalize wc = w2 at *
      by_cases hck : ck = 0
      · obtain ⟨cr, HCR⟩ : ∃ cr : Nat, Hid (chkL G.E G.V (stay G.W t all) ⟨u, v, wt, t⟩ = cr) := ⟨_, rfl⟩
        have HR := Lib.hid (HAE.out (cr : Int) (fun c => absurd c HN.out) (fun _ c => absurd hck c) (fun _ _ => by rw [HCR.out]))
        have HCZ : Hid (clkE G.W G.now t = 0) := HCK.out.trans hck
        subst hck
        clear HAE HCK
        have c8 := HB2.out.st.mem.c8
        have t2 : decide ((9223372036854775807 : Int) ≤ (G.add : Int)) = false := decide_eq_false (by have := HAD.out; omega)
        have z0 := HB2.out.bz.cell (i := 0) rfl
        have z1 := HB2.out.bz.cell (i := 1) rfl
        have z2 := HB2.out.bz.cell (i := 2) rfl
        have z3 := HB2.out.bz.cell (i := 3) rfl
        have HRO : Hid (Calls Tryz.prog 20 #[.pointer (some ⟨b, 0, none⟩), .agg #[.int .u64 (u : Int), .int .u64 (v : Int), .int .i64 wt, .int .i64 t]] w2 (RetB (.int .i64 (cr : Int)) w2)) := by
          have := wn_room w2 b G all HB2.out.st.mem HL.out u v wt t HN.out
          rw [show (all.filter fun q => decide (t < q.t + G.W)) = stay G.W t all from rfl, HCR.out] at this
          exact this
        by_cases hcr : cr = 0
        · subst hcr
          go_upto_region 13 with (go_at_call 20; refine HRO.out.mono ?_; rintro e w3 ⟨rfl, hb⟩; have HB3 := Lib.hid (HB2.out.below hb); clear hb)
          clear z0 z1 z2 z3 c8 HRO HB2
          have z3 := HB3.out.bz.cell (i := 3) rfl
          have HTI := Lib.hid (wn_tick w3 b G all HB3.out.st.mem HL.out t HT.out)
          go_upto_region 14 with (go_at_call 9; refine HTI.out.mono ?_; rintro e w4 hpo; obtain ⟨hval, G4, hst, hcf, had4, hok, _⟩ := hpo; subst hval; have HB4 := Lib.hid (HB3.out.step hst); have HOK := Lib.hid (hok HCZ.out); have HCF := Lib.hid hcf; have HA4 := Lib.hid had4; clear hst hcf had4 hok)
          clear z3 HTI HB3
          have z0 := HB4.out.bz.cell (i := 0) rfl
          have z1 := HB4.out.bz.cell (i := 1) rfl
          have z2 := HB4.out.bz.cell (i := 2) rfl
          have z3 := HB4.out.bz.cell (i := 3) rfl
          have HIN : Hid (Calls Tryz.prog 21 #[.pointer (some ⟨b, 0, none⟩), .agg #[.int .u64 (u : Int), .int .u64 (v : Int), .int .i64 wt, .int .i64 t]] w4 (WnIn w4 b G4 (stay G.W t all) ⟨u, v, wt, t⟩)) := by
            obtain ⟨hl4, hn4⟩ := HOK.out
            obtain ⟨ge4, F4, he4⟩ := hl4.ed
            have hk := hl4.chk he4 ⟨u, v, wt, t⟩ HN.out
            rw [HCF.out.E, HCF.out.V] at hk
            have := wn_insert w4 b G4 _ HB4.out.st.mem hl4 u v wt HU.out.1 HU.out.2 (hk.trans HCR.out) (by rw [hn4, HCF.out.W]; exact (clk_zero HCZ.out HE.out.cfg.2.2.2.2.1 HL.out.now.1).2) (by rw [HA4.out]; exact HAD.out)
            rw [hn4] at this
            exact this
          go_wp2_with (go_at_call 21; refine HIN.out.mono ?_; rintro e w5 hpo; obtain ⟨hval, G5, hst, hcf, hnw, had5, hl5⟩ := hpo; subst hval; have HB5 := Lib.hid (HB4.out.step hst); have HL5 := Lib.hid hl5; have HC5 := Lib.hid (HCF.out.trans hcf); have HA5 := Lib.hid had5; have HN5 := Lib.hid hnw; clear hst hcf hnw had5 hl5)
          go_ret
          exact HFIN.out 0 _ G5 HR.out HB5.out.st HC5.out (by rw [HA5.out, HA4.out]; exact Nat.le_refl _) (fun _ => ⟨HL5.out, HN5.out.trans HOK.out.2⟩) (fun c => absurd rfl c)
        · have t3 : ((cr : Int) == 0) = false := by rw [beq_eq_false_iff_ne]; omega
          have t4 : decide ((cr : Int) = 0) = false := decide_eq_false (by omega)
          have HZ := Lib.hid hcr
          clear hcr
          go_wp2_with (go_at_call 20; refine HRO.out.mono ?_; rintro e w3 ⟨rfl, hb⟩; have HB3 := Lib.hid (HB2.out.below hb); clear hb)
          go_ret
          exact HFIN.out (cr : Int) _ G HR.out HB3.out.st (CfgE.refl G) (Nat.le_succ _) (fun c => absurd c (by have := HZ.out; omega)) (fun _ => ⟨HL.out, rfl⟩)
      · have HR := Lib.hid (HAE.out ck (fun c => absurd c HN.out) (fun _ _ => rfl) (fun _ c => absurd c hck))
        have HZ := Lib.hid hck
        have t2 : (ck == 0) = false := by rw [beq_eq_false_iff_ne]; exact hck
        have t3 : decide (ck = 0) = false := decide_eq_false hck
        go_wp2_with fail
        go_ret
        exact HFIN.out ck _ G HR.out HB2.out.st (CfgE.refl G) (Nat.le_succ _) (fun c => absurd c HZ.out) (fun _ => ⟨HL.out, rfl⟩)
end Go.Proofs.YtlooaipipmiijaaGreat

namespace Go.Proofs.YtlooaipipmiijaaGreat
set_option linter.unusedVariables false
set_option linter.unusedSimpArgs false
open Go.RowKit
def CfgO (W E V D : Int) : Prop := 1 ≤ W ∧ 1 ≤ E ∧ E ≤ 16384 ∧ 2 ≤ V ∧ V ≤ 4096 ∧ 0 ≤ D ∧ D ≤ 16384
instance (W E V D : Int) : Decidable (CfgO W E V D) := by unfold CfgO; infer_instance
set_option maxHeartbeats 2000000 in
theorem wn_isConfig (w : World) (W E V D : Int) :
    Calls Tryz.prog 39 #[.agg #[.int .i64 W, .int .i64 E, .int .i64 V, .int .i64 D]] w (RetB (.bool (decide (CfgO W E V D))) w) := by
  have HB : Hid (Below w.heap.size w (w.alloc (.cells #[.int .i64 W, .int .i64 E, .int .i64 V, .int .i64 D] 23))) := bel_alloc w _
  have HX := Lib.hid (Blk.new w 23 [.int .i64 W, .int .i64 E, .int .i64 V, .int .i64 D])
  simp only [List.toArray] at HX
  go_enter Tryz.func39, Tryz.ntmps39
  go_upto_region 1 with fail
  generalize w.alloc (.cells #[.int .i64 W, .int .i64 E, .int .i64 V, .int .i64 D] 23) = w1 at *
  generalize hz : w.heap.size = z at *
  have c0 := HX.out.cell (i := 0) rfl
  have c1 := HX.out.cell (i := 1) rfl
  have c2 := HX.out.cell (i := 2) rfl
  have c3 := HX.out.cell (i := 3) rfl
  by_cases h0 : 1 ≤ W
  rotate_left
  · have t0 : decide ((1 : Int) ≤ W) = false := decide_eq_false h0
    have hd : decide (CfgO W E V D) = false := decide_eq_false fun c => h0 c.1
    rw [hd]
    go_wp2_with fail
    go_ret
    exact ⟨by first | rfl | (rw [hd]; rfl), by rw [hz]; exact HB.out⟩
  have t0 : decide ((1 : Int) ≤ W) = true := decide_eq_true h0
  by_cases h1 : 1 ≤ E
  rotate_left
  · have t1 : decide ((1 : Int) ≤ E) = false := decide_eq_false h1
    have hd : decide (CfgO W E V D) = false := decide_eq_false fun c => h1 c.2.1
    rw [hd]
    go_wp2_with fail
    go_ret
    exact ⟨by first | rfl | (rw [hd]; rfl), by rw [hz]; exact HB.out⟩
  have t1 : decide ((1 : Int) ≤ E) = true := decide_eq_true h1
  by_cases h2 : E ≤ 16384
  rotate_left
  · have t2 : decide (E ≤ (16384 : Int)) = false := decide_eq_false h2
    have hd : decide (CfgO W E V D) = false := decide_eq_false fun c => h2 c.2.2.1
    rw [hd]
    go_wp2_with fail
    go_ret
    exact ⟨by first | rfl | (rw [hd]; rfl), by rw [hz]; exact HB.out⟩
  have t2 : decide (E ≤ (16384 : Int)) = true := decide_eq_true h2
  by_cases h3 : 2 ≤ V
  rotate_left
  · have t3 : decide ((2 : Int) ≤ V) = false := decide_eq_false h3
    have hd : decide (CfgO W E V D) = false := decide_eq_false fun c => h3 c.2.2.2.1
    rw [hd]
    go_wp2_with fail
    go_ret
    exact ⟨by first | rfl | (rw [hd]; rfl), by rw [hz]; exact HB.out⟩
  have t3 : decide ((2 : Int) ≤ V) = true := decide_eq_true h3
  by_cases h4 : V ≤ 4096
  rotate_left
  · have t4 : decide (V ≤ (4096 : Int)) = false := decide_eq_false h4
    have hd : decide (CfgO W E V D) = false := decide_eq_false fun c => h4 c.2.2.2.2.1
    rw [hd]
    go_wp2_with fail
    go_ret
    exact ⟨by first | rfl | (rw [hd]; rfl), by rw [hz]; exact HB.out⟩
  have t4 : decide (V ≤ (4096 : Int)) = true := decide_eq_true h4
  by_cases h5 : 0 ≤ D
  rotate_left
  · have t5 : decide ((0 : Int) ≤ D) = false := decide_eq_false h5
    have hd : decide (CfgO W E V D) = false := decide_eq_false fun c => h5 c.2.2.2.2.2.1
    rw [hd]
    go_wp2_with fail
    go_ret
    exact ⟨by first | rfl | (rw [hd]; rfl), by rw [hz]; exact HB.out⟩
  have t5 : decide ((0 : Int) ≤ D) = true := decide_eq_true h5
  by_cases h6 : D ≤ 16384
  rotate_left
  · have t6 : decide (D ≤ (16384 : Int)) = false := decide_eq_false h6
    have hd : decide (CfgO W E V D) = false := decide_eq_false fun c => h6 c.2.2.2.2.2.2
    rw [hd]
    go_wp2_with fail
    go_ret
    exact ⟨by first | rfl | (rw [hd]; rfl), by rw [hz]; exact HB.out⟩
  have t6 : decide (D ≤ (16384 : Int)) = true := decide_eq_true h6
  have hd : decide (CfgO W E V D) = true := decide_eq_true ⟨h0, h1, h2, h3, h4, h5, h6⟩
  rw [hd]
  go_wp2_with fail
  go_ret
  exact ⟨by first | rfl | (rw [hd]; rfl), by rw [hz]; exact HB.out⟩
end Go.Proofs.YtlooaipipmiijaaGreat

namespace Go.Proofs.YtlooaipipmiijaaGreat
set_option linter.unusedVariables false
set_option linter.unusedSimpArgs false
open Go.RowKit
structure WnNw (w : World) (W : Int) (E V : Nat) (D : Int) (e : Ending) (w' : World) : Prop where
  ex : ∃ b G, e = .returned (.tuple #[.pointer (some ⟨b, 0, none⟩), .int .i64 0]) ∧ WnM w' b G ∧ WnL G [] ∧ (G.W = W ∧ G.E = E ∧ G.V = V ∧ G.D = D ∧ G.now = 0 ∧ G.add = 0) ∧ ∀ k, G.foot b k → w.heap.size ≤ k
  bel : Below w.heap.size w w'
theorem wn_made {w W : World} {Wd D : Int} {E V c cp sp ep fp qp z1 z2 z3 z4 : Nat} {g' : SG} {qg : HG} {f' : FoG} (hW : 1 ≤ Wd ∧ Wd ≤ 9223372036854775807) (hE : 1 ≤ E ∧ E ≤ 16384) (hV : 2 ≤ V ∧ V ≤ 4096) (hb : WpS w W c [.int .i64 Wd, .int .i64 (E : Int), .int .i64 (V : Int), .int .i64 D, .pointer (some ⟨cp, 0, none⟩), .pointer (some ⟨sp, 0, none⟩), .pointer (some ⟨ep, 0, none⟩), .pointer (some ⟨fp, 0, none⟩), .int .u64 0, .int .u64 0])
    (hc : ClkO W cp Wd 0) (hs : SgI sp g' z1 z2 W) (hq : EgI ep E [] qp qg z2 z3 W) (hf : FgI fp f' z3 z4 W) (h1 : c < cp ∧ cp < z1) (h2 : z1 ≤ z2 ∧ z2 ≤ z3)
    (hg : StL g') (gs : g'.V = V ∧ g'.E = E ∧ g'.last = 0 ∧ g'.Lv = fun _ => False) (hfp : FoP f' (fun _ => ⟨0, 0, 0⟩) (fun _ => False) (fun _ => False)) (fs : f'.V = V ∧ f'.S = E ∧ f'.Q = []) : WnNw w Wd E V D (.returned (.tuple #[.pointer (some ⟨c, 0, none⟩), .int .i64 0])) W := by
  obtain ⟨g1, g2, g3, g4⟩ := gs
  obtain ⟨f1, f2, f3⟩ := fs
  obtain ⟨G0, hG0⟩ : ∃ G0 : WnG, G0 = ⟨Wd, E, V, D, 0, cp, sp, ep, qp, fp, g', [], qg, f', 0, 0, fun _ => 0⟩ := ⟨_, rfl⟩
  have he : WnE G0 (fun _ => ⟨0, 0, 0⟩) (fun _ => False) := by
    rw [hG0]
    refine ⟨hg, g1, g2, f1, f2, ?_, fun s k => ?_, fun s k => ?_, g3, ⟨hE.1, hE.2, hV.1, hV.2, hW.1, hW.2⟩⟩
    · show FoP f' _ g'.Lv _
      rw [g4]; exact hfp
    · have k' : g'.Lv s := k
      rw [g4] at k'; exact k'.elim
    · have k' : g'.Lv s := k
      rw [g4] at k'; exact k'.elim
  have hl : WnL G0 [] := by
    refine ⟨⟨_, _, he⟩, by rw [hG0]; exact f3.symm, by rw [hG0]; exact ⟨Int.le_refl _, by show (0 : Int) ≤ 9223372036854775807; omega⟩, fun s k => ?_, [], List.nodup_nil, fun s => ?_, rfl⟩
    · rw [hG0] at k
      have k' : g'.Lv s := k
      rw [g4] at k'; exact k'.elim
    · rw [hG0]
      show s ∈ [] ↔ g'.Lv s
      rw [g4]
      exact ⟨fun h => absurd h List.not_mem_nil, fun h => h.elim⟩
  have key : WnCy w G0 [] (.returned (.pointer (some ⟨c, 0, none⟩))) W := by
    refine wn_copied (G := G0) (g' := g') (qg := qg) (f' := f') (cp := cp) (sp := sp) (ep := ep) (fp := fp) (qp := qp) (z1 := z1) (z2 := z2) (z3 := z3) (z4 := z4) hl he ?_ ?_ hs ?_ hf h1 h2 hg ?_ ?_ ?_
    · rw [hG0]; exact hb
    · rw [hG0]; exact hc
    · rw [hG0]; exact hq
    · rw [hG0]; exact ⟨rfl, rfl, rfl, rfl, rfl, rfl, rfl⟩
    · rw [hG0]
      show FoP f' _ g'.Lv _
      rw [g4]; exact hfp
    · rw [hG0]; exact ⟨rfl, rfl, rfl⟩
  obtain ⟨c', G', e, k1, k2, k3, k4, k5, k6⟩ := key.ex
  injection e with e
  injection e with e
  injection e with e
  injection e with e
  subst e
  refine ⟨⟨c, G', rfl, k1, k2, ⟨by rw [k3.W, hG0], by rw [k3.E, hG0], by rw [k3.V, hG0], by rw [k3.D, hG0], by rw [k4, hG0], by rw [k5, hG0]⟩, k6⟩, key.bel⟩
theorem clko_mod2 {w : World} {p c j : Nat} {W now : Int} {v : Value} (h : ClkO w p W now) (hc : c ≠ p) : ClkO (w.setCell ⟨c, j, none⟩ v) p W now :=
  h.mod ((Mod.refl (fun x => x = c) w).setCell ⟨c, j, none⟩ (fun _ => rfl) v) (fun e => hc e.symm)
structure FrB (w : World) (z eb c : Nat) (Wd D : Int) (E V : Nat) (vs : List Value) (W : World) : Prop where
  wp : WpS w W c vs
  bz : Blk W z 23 [.int .i64 Wd, .int .i64 (E : Int), .int .i64 (V : Int), .int .i64 D]
  be : Blk W eb 84 [.int .i64 0, .int .i64 0, .int .i64 0, .int .i64 0]
  ord : w.heap.size ≤ z ∧ z < eb ∧ eb < c
theorem FrB.up {w W W1 : World} {z eb c E V : Nat} {Wd D : Int} {vs : List Value} (h : FrB w z eb c Wd D E V vs W) (hb : Below W.heap.size W W1) : FrB w z eb c Wd D E V vs W1 :=
  ⟨h.wp.up hb, h.bz.below hb h.bz.lt, h.be.below hb h.be.lt, h.ord⟩
theorem FrB.set {w W : World} {z eb c E V : Nat} {Wd D : Int} {vs : List Value} (h : FrB w z eb c Wd D E V vs W) (j i : Nat) (v : Value) (hi : ([.int .i64 0, .int .i64 0, .int .i64 0, .int .i64 0] : List Value).set i (.int .i64 0) = [.int .i64 0, .int .i64 0, .int .i64 0, .int .i64 0]) :
    FrB w z eb c Wd D E V (vs.set j v) ((W.setCell ⟨c, j, none⟩ v).setCell ⟨eb, i, none⟩ (.int .i64 0)) := by
  have o := h.ord
  have m1 : Mod (fun x => x = c) W (W.setCell ⟨c, j, none⟩ v) := (Mod.refl (fun x => x = c) W).setCell ⟨c, j, none⟩ (fun _ => rfl) v
  have m2 : Mod (fun x => x = eb) (W.setCell ⟨c, j, none⟩ v) ((W.setCell ⟨c, j, none⟩ v).setCell ⟨eb, i, none⟩ (.int .i64 0)) := (Mod.refl (fun x => x = eb) _).setCell ⟨eb, i, none⟩ (fun _ => rfl) _
  have h1 := h.wp.set j v
  refine ⟨⟨h1.box.mod m2 (by omega), h1.bel.setCell (by show w.heap.size ≤ eb; omega) _, h1.cc⟩, (h.bz.mod m1 (by omega)).mod m2 (by omega), ?_, o⟩
  have h2 := (h.be.mod m1 (by omega)).set i (.int .i64 0)
  rw [hi] at h2
  exact h2
theorem FrB.cells {w W : World} {z eb c E V : Nat} {Wd D : Int} {vs : List Value} (h : FrB w z eb c Wd D E V vs W) :
    (W.cell? ⟨z, 0, none⟩ = some (.int .i64 Wd) ∧ W.cell? ⟨z, 1, none⟩ = some (.int .i64 (E : Int)) ∧ W.cell? ⟨z, 2, none⟩ = some (.int .i64 (V : Int)) ∧ W.cell? ⟨z, 3, none⟩ = some (.int .i64 D)) ∧ (W.cell? ⟨eb, 0, none⟩ = some (.int .i64 0) ∧ W.cell? ⟨eb, 1, none⟩ = some (.int .i64 0) ∧ W.cell? ⟨eb, 2, none⟩ = some (.int .i64 0) ∧ W.cell? ⟨eb, 3, none⟩ = some (.int .i64 0)) ∧ (∀ j, W.frozen? ⟨eb, j, none⟩ = false) ∧ ∀ j, W.frozen? ⟨c, j, none⟩ = false :=
  ⟨⟨h.bz.cell (i := 0) rfl, h.bz.cell (i := 1) rfl, h.bz.cell (i := 2) rfl, h.bz.cell (i := 3) rfl⟩, ⟨h.be.cell (i := 0) rfl, h.be.cell (i := 1) rfl, h.be.cell (i := 2) rfl, h.be.cell (i := 3) rfl⟩, h.be.free, h.wp.box.free⟩
end Go.Proofs.YtlooaipipmiijaaGreat

namespace Go.Proofs.YtlooaipipmiijaaGreat
set_option linter.unusedVariables false
set_option linter.unusedSimpArgs false
open Go.RowKit
set_option maxHeartbeats 2000000 in
theorem wn_from_bad (w : World) (W E V D : Int) (h : ¬ CfgO W E V D) :
    Calls Tryz.prog 17 #[.agg #[.int .i64 W, .int .i64 E, .int .i64 V, .int .i64 D], .int .u64 0] w (RetB (.tuple #[.pointer none, .int .i64 2]) w) := by
  have HB : Hid (Below w.heap.size w (w.alloc (.cells #[.int .i64 W, .int .i64 E, .int .i64 V, .int .i64 D] 23))) := bel_alloc w _
  have HX := Lib.hid (Blk.new w 23 [.int .i64 W, .int .i64 E, .int .i64 V, .int .i64 D])
  simp only [List.toArray] at HX
  have hd : decide (CfgO W E V D) = false := decide_eq_false h
  have HIC := fun W1 => wn_isConfig W1 W E V D
  rw [hd] at HIC
  replace HIC := Lib.hid HIC
  clear h hd
  go_enter Tryz.func17, Tryz.ntmps17
  go_upto_region 1 with fail
  generalize hw1 : w.alloc (.cells #[.int .i64 W, .int .i64 E, .int .i64 V, .int .i64 D] 23) = w1 at *
  generalize hz : w.heap.size = z at *
  have c0 := HX.out.cell (i := 0) rfl
  have c1 := HX.out.cell (i := 1) rfl
  have c2 := HX.out.cell (i := 2) rfl
  have c3 := HX.out.cell (i := 3) rfl
  have HI1 := Lib.hid (HIC.out w1)
  go_wp2_with (go_at_call 39; refine HI1.out.mono ?_; rintro e w2 ⟨rfl, hb⟩; have HB2 := Lib.hid hb; clear hb)
  go_ret2
  refine ⟨rfl, ?_⟩
  have h1 := HB.out
  rw [← hz] at h1
  exact bel_next h1 HB2.out
set_option maxHeartbeats 4000000 in
set_option maxRecDepth 100000 in
theorem wn_from (w : World) (Wd D : Int) (E V : Nat) (h : CfgO Wd E V D) (hmx : Wd ≤ 9223372036854775807) :
    Calls Tryz.prog 17 #[.agg #[.int .i64 Wd, .int .i64 (E : Int), .int .i64 (V : Int), .int .i64 D], .int .u64 0] w (WnNw w Wd E V D) := by
  have HB : Hid (Below w.heap.size w (w.alloc (.cells #[.int .i64 Wd, .int .i64 (E : Int), .int .i64 (V : Int), .int .i64 D] 23))) := bel_alloc w _
  have HX := Lib.hid (Blk.new w 23 [.int .i64 Wd, .int .i64 (E : Int), .int .i64 (V : Int), .int .i64 D])
  simp only [List.toArray] at HX
  have hd : decide (CfgO Wd E V D) = true := decide_eq_true h
  have HIC := fun W1 => wn_isConfig W1 Wd E V D
  rw [hd] at HIC
  replace HIC := Lib.hid HIC
  have HCF : Hid ((1 ≤ Wd ∧ Wd ≤ 9223372036854775807) ∧ (1 ≤ E ∧ E ≤ 16384) ∧ 2 ≤ V ∧ V ≤ 4096) := by
    obtain ⟨h1, h2, h3, h4, h5, _⟩ := h
    show _ ∧ _ ∧ _
    omega
  have hbd : ∀ W, (Instr.build 56 #[(0, .agg #[.int .i64 Wd, .int .i64 (E : Int), .int .i64 (V : Int), .int .i64 D]), (5, .int .u64 0), (6, .int .u64 0)]).run Tryz.prog W = .ok (.agg #[.int .i64 Wd, .int .i64 (E : Int), .int .i64 (V : Int), .int .i64 D, .pointer none, .pointer none, .pointer none, .pointer none, .int .u64 0, .int .u64 0]) W := fun W => by kernel_rfl
  have hbe : ∀ W, (Instr.build 84 #[]).run Tryz.prog W = .ok (.agg #[.int .i64 0, .int .i64 0, .int .i64 0, .int .i64 0]) W := fun W => by kernel_rfl
  have hne : ∀ W, (binOp .neq 84 (.agg #[.int .i64 0, .int .i64 0, .int .i64 0, .int .i64 0]) (.agg #[.int .i64 0, .int .i64 0, .int .i64 0, .int .i64 0])).run Tryz.prog W = .ok (.bool false) W := fun W => by kernel_rfl
  clear h hd hmx
  go_enter Tryz.func17, Tryz.ntmps17
  go_upto_region 1 with fail
  generalize hw1 : w.alloc (.cells #[.int .i64 Wd, .int .i64 (E : Int), .int .i64 (V : Int), .int .i64 D] 23) = w1 at *
  generalize hz : w.heap.size = z at *
  have c0 := HX.out.cell (i := 0) rfl
  have c1 := HX.out.cell (i := 1) rfl
  have c2 := HX.out.cell (i := 2) rfl
  have c3 := HX.out.cell (i := 3) rfl
  have HI1 := Lib.hid (HIC.out w1)
  go_upto_region 4 with (go_at_call 39; refine HI1.out.mono ?_; rintro e w2 ⟨rfl, hb⟩; have HB2 := Lib.hid hb; clear hb)
  clear c0 c1 c2 c3 HI1 HIC hw1
  have HXW := Lib.hid (HX.out.below HB2.out HX.out.lt)
  have HBW : Hid (Below z w w2) := by
    show Below _ _ _
    have h1 := HB.out
    rw [← hz] at h1 ⊢
    exact bel_next h1 HB2.out
  have HEB := Lib.hid (Blk.new w2 84 [.int .i64 0, .int .i64 0, .int .i64 0, .int .i64 0])
  have HX3 := Lib.hid (HXW.out.below (bel_alloc w2 (.cells #[.int .i64 0, .int .i64 0, .int .i64 0, .int .i64 0] 84)) HXW.out.lt)
  have HB3 : Hid (Below z w (w2.alloc (.cells #[.int .i64 0, .int .i64 0, .int .i64 0, .int .i64 0] 84))) := HBW.out.alloc (by rw [← hz]; exact HBW.out.size) _
  have HZE : Hid (z < w2.heap.size) := HXW.out.lt
  simp only [List.toArray] at HEB
  clear HXW HBW HB2 HB HX
  generalize w2.alloc (.cells #[.int .i64 0, .int .i64 0, .int .i64 0, .int .i64 0] 84) = w3 at *
  generalize w2.heap.size = eb at *
  have c0 := HX3.out.cell (i := 0) rfl
  have c1 := HX3.out.cell (i := 1) rfl
  have c2 := HX3.out.cell (i := 2) rfl
  have c3 := HX3.out.cell (i := 3) rfl
  go_upto_region 5 with fail
  have HF4 : Hid (FrB w z eb w3.heap.size Wd D E V [.int .i64 Wd, .int .i64 (E : Int), .int .i64 (V : Int), .int .i64 D, .pointer none, .pointer none, .pointer none, .pointer none, .int .u64 0, .int .u64 0] (w3.alloc (.cells #[.int .i64 Wd, .int .i64 (E : Int), .int .i64 (V : Int), .int .i64 D, .pointer none, .pointer none, .pointer none, .pointer none, .int .u64 0, .int .u64 0] 56))) := by
    have h3 := HB3.out
    have hbl := bel_alloc w3 (.cells #[.int .i64 Wd, .int .i64 (E : Int), .int .i64 (V : Int), .int .i64 D, .pointer none, .pointer none, .pointer none, .pointer none, .int .u64 0, .int .u64 0] 56)
    have hs := h3.size
    rw [← hz] at h3
    refine ⟨⟨Blk.new w3 _ [_, _, _, _, _, _, _, _, _, _], bel_next h3 hbl, ?_⟩, HX3.out.below hbl HX3.out.lt, HEB.out.below hbl HEB.out.lt, Nat.le_of_eq hz, HZE.out, HEB.out.lt⟩
    exact h3.size
  clear c0 c1 c2 c3 HX3 HEB HB3 HZE hbd
  generalize w3.alloc (.cells #[.int .i64 Wd, .int .i64 (E : Int), .int .i64 (V : Int), .int .i64 D, .pointer none, .pointer none, .pointer none, .pointer none, .int .u64 0, .int .u64 0] 56) = W4 at *
  generalize w3.heap.size = c at *
  obtain ⟨⟨c0, c1, c2, c3⟩, _, _, _⟩ := HF4.out.cells
  have HCN := Lib.hid (clk_new W4 Wd HCF.out.1.2)
  have HO4 : Hid (c < W4.heap.size ∧ eb < W4.heap.size) := ⟨HF4.out.wp.box.lt, HF4.out.be.lt⟩
  go_upto_region 6 with (go_at_call 40; refine HCN.out.mono ?_; rintro e w5 hpo; obtain ⟨cp, rfl, hco, hcs⟩ := hpo.ok HCF.out.1.1; have HF5 := Lib.hid (HF4.out.up hpo.bel); have HCO := Lib.hid hco; have HCS : Hid (W4.heap.size ≤ cp ∧ cp < w5.heap.size) := ⟨hcs, hco.box.lt⟩; obtain ⟨d1, ⟨e0, e1, e2, e3⟩, fe, fc⟩ := HF5.out.cells; have fe0 := fe 0; have fc4 := fc 4; have d4 := HF5.out.wp.box.cell (i := 4) rfl; clear hpo hco hcs d1 fe fc)
  clear c0 c1 c2 c3 e0 e1 e2 e3 fe0 fc4 d4 HCN
  have HF6 := Lib.hid (HF5.out.set 4 0 (.pointer (some ⟨cp, 0, none⟩)) rfl)
  have HK6 := Lib.hid (clko_mod2 (j := 0) (v := .int .i64 0) (c := eb) (clko_mod2 (j := 4) (v := .pointer (some ⟨cp, 0, none⟩)) (c := c) HCO.out (by have := HCS.out; have := HO4.out; omega)) (by have := HCS.out; have := HO4.out; omega))
  have HS6 : Hid (((w5.setCell ⟨c, 4, none⟩ (.pointer (some ⟨cp, 0, none⟩))).setCell ⟨eb, 0, none⟩ (.int .i64 0)).heap.size = w5.heap.size) := by show _ = _; rw [World.size_setCell, World.size_setCell]
  generalize hW6 : (w5.setCell ⟨c, 4, none⟩ (.pointer (some ⟨cp, 0, none⟩))).setCell ⟨eb, 0, none⟩ (.int .i64 0) = W6 at *
  clear hW6 HF5 HCO HF4
  obtain ⟨⟨c0, c1, c2, c3⟩, _, _, _⟩ := HF6.out.cells
  have HSN := Lib.hid (st_from W6 V E 0 HCF.out.2.2.2 HCF.out.2.1.2 (by omega))
  go_upto_region 7 with (go_at_call 41; refine HSN.out.mono ?_; rintro e w7 hpo; obtain ⟨sp, g', he, hsm, hsl, r1, r2, r3, r4, hsf, hss⟩ := hpo.ex; subst he; have hb := hpo.bel; have HF7 := Lib.hid (HF6.out.up hb); have HK7 := Lib.hid (HK6.out.below hb); have HSI := Lib.hid (sgi_mk hsm hsf); have HSL := Lib.hid (hsl.tight (fun k => g'.FA k ∧ k < w7.heap.size) (fun k => g'.FT k ∧ k < w7.heap.size)); have HSE : Hid (g'.V = V ∧ g'.E = E ∧ g'.last = 0 ∧ g'.Lv = fun _ => False) := ⟨r1, r2, r3, r4⟩; have HZ7 : Hid (W6.heap.size ≤ w7.heap.size) := hb.size; obtain ⟨d1, ⟨e0, e1, e2, e3⟩, fe, fc⟩ := HF7.out.cells; have fe0 := fe 1; have fc4 := fc 5; have d4 := HF7.out.wp.box.cell (i := 5) rfl; clear hpo hb hsm hsl hsf hss r1 r2 r3 r4 d1 fe fc)
  clear c0 c1 c2 c3 e0 e1 e2 e3 fe0 fc4 d4 HSN
  have HF8 := Lib.hid (HF7.out.set 5 1 (.pointer (some ⟨sp, 0, none⟩)) rfl)
  have HK8 := Lib.hid (clko_mod2 (j := 1) (v := .int .i64 0) (c := eb) (clko_mod2 (j := 5) (v := .pointer (some ⟨sp, 0, none⟩)) (c := c) HK7.out (by have := HCS.out; have := HO4.out; omega)) (by have := HCS.out; have := HO4.out; omega))
  have HI8 := Lib.hid (sgi_mod (j := 1) (v := .int .i64 0) (c := eb) (sgi_mod (j := 5) (v := .pointer (some ⟨sp, 0, none⟩)) (c := c) HSI.out (by have := HS6.out; have := HCS.out; have := HO4.out; omega)) (by have := HS6.out; have := HCS.out; have := HO4.out; omega))
  have HS8 : Hid (((w7.setCell ⟨c, 5, none⟩ (.pointer (some ⟨sp, 0, none⟩))).setCell ⟨eb, 1, none⟩ (.int .i64 0)).heap.size = w7.heap.size) := by show _ = _; rw [World.size_setCell, World.size_setCell]
  generalize hW8 : (w7.setCell ⟨c, 5, none⟩ (.pointer (some ⟨sp, 0, none⟩))).setCell ⟨eb, 1, none⟩ (.int .i64 0) = W8 at *
  clear hW8 HF7 HK7 HSI HF6 HK6
  obtain ⟨⟨c0, c1, c2, c3⟩, _, _, _⟩ := HF8.out.cells
  have HEN := Lib.hid (enew_ok E W8 (by have := HCF.out.2.1.2; omega))
  go_upto_region 8 with (go_at_call 42; refine HEN.out.mono ?_; rintro e w9 hpo; obtain ⟨ep, qp, qg, heo, hef, hes, he⟩ := hpo.out; subst he; have hb := hpo.bel; have HF9 := Lib.hid (HF8.out.up hb); have HK9 := Lib.hid (HK8.out.below hb); have HI9 := Lib.hid (sgi_up HI8.out hb); have HEI := Lib.hid (egi_mk (EFresh.mk heo hb hef hes)); have HZ9 : Hid (W8.heap.size ≤ w9.heap.size) := hb.size; obtain ⟨d1, ⟨e0, e1, e2, e3⟩, fe, fc⟩ := HF9.out.cells; have fe0 := fe 2; have fc4 := fc 6; have d4 := HF9.out.wp.box.cell (i := 6) rfl; clear hpo hb heo hef hes d1 fe fc)
  clear c0 c1 c2 c3 e0 e1 e2 e3 fe0 fc4 d4 HEN
  have HF10 := Lib.hid (HF9.out.set 6 2 (.pointer (some ⟨ep, 0, none⟩)) rfl)
  have HK10 := Lib.hid (clko_mod2 (j := 2) (v := .int .i64 0) (c := eb) (clko_mod2 (j := 6) (v := .pointer (some ⟨ep, 0, none⟩)) (c := c) HK9.out (by have := HCS.out; have := HO4.out; omega)) (by have := HCS.out; have := HO4.out; omega))
  have HI10 := Lib.hid (sgi_mod (j := 2) (v := .int .i64 0) (c := eb) (sgi_mod (j := 6) (v := .pointer (some ⟨ep, 0, none⟩)) (c := c) HI9.out (by have := HS6.out; have := HCS.out; have := HO4.out; omega)) (by have := HS6.out; have := HCS.out; have := HO4.out; omega))
  have HE10 := Lib.hid (egi_mod (j := 2) (v := .int .i64 0) (c := eb) (egi_mod (j := 6) (v := .pointer (some ⟨ep, 0, none⟩)) (c := c) HEI.out (by have := HS6.out; have := HCS.out; have := HO4.out; have := HS8.out; have := HZ7.out; omega)) (by have := HS6.out; have := HCS.out; have := HO4.out; have := HS8.out; have := HZ7.out; omega))
  have HS10 : Hid (((w9.setCell ⟨c, 6, none⟩ (.pointer (some ⟨ep, 0, none⟩))).setCell ⟨eb, 2, none⟩ (.int .i64 0)).heap.size = w9.heap.size) := by show _ = _; rw [World.size_setCell, World.size_setCell]
  generalize hW10 : (w9.setCell ⟨c, 6, none⟩ (.pointer (some ⟨ep, 0, none⟩))).setCell ⟨eb, 2, none⟩ (.int .i64 0) = W10 at *
  clear hW10 HF9 HK9 HI9 HEI HF8 HK8 HI8
  obtain ⟨⟨c0, c1, c2, c3⟩, _, _, _⟩ := HF10.out.cells
  have HFN := Lib.hid (fo_new W10 V E HCF.out.2.2.2 HCF.out.2.1.2)
  go_upto_region 9 with (go_at_call 43; refine HFN.out.mono ?_; rintro e w11 hpo; obtain ⟨fp, f', he, hfm, hfp, r1, r2, r3, hff, _⟩ := hpo.ex; subst he; have hb := hpo.bel; have HF11 := Lib.hid (HF10.out.up hb); have HK11 := Lib.hid (HK10.out.below hb); have HI11 := Lib.hid (sgi_up HI10.out hb); have HE11 := Lib.hid (egi_up HE10.out hb); have HFI := Lib.hid (fgi_mk hfm hff); have HFP := Lib.hid hfp; have HFE : Hid (f'.V = V ∧ f'.S = E ∧ f'.Q = []) := ⟨r1, r2, r3⟩; obtain ⟨d1, ⟨e0, e1, e2, e3⟩, fe, fc⟩ := HF11.out.cells; have fe0 := fe 3; have fc4 := fc 7; have d4 := HF11.out.wp.box.cell (i := 7) rfl; clear hpo hb hfm hfp hff r1 r2 r3 d1 fe fc)
  clear c0 c1 c2 c3 e0 e1 e2 e3 fe0 fc4 d4 HFN
  have HF12 := Lib.hid (HF11.out.set 7 3 (.pointer (some ⟨fp, 0, none⟩)) rfl)
  have HK12 := Lib.hid (clko_mod2 (j := 3) (v := .int .i64 0) (c := eb) (clko_mod2 (j := 7) (v := .pointer (some ⟨fp, 0, none⟩)) (c := c) HK11.out (by have := HCS.out; have := HO4.out; omega)) (by have := HCS.out; have := HO4.out; omega))
  have HI12 := Lib.hid (sgi_mod (j := 3) (v := .int .i64 0) (c := eb) (sgi_mod (j := 7) (v := .pointer (some ⟨fp, 0, none⟩)) (c := c) HI11.out (by have := HS6.out; have := HCS.out; have := HO4.out; omega)) (by have := HS6.out; have := HCS.out; have := HO4.out; omega))
  have HE12 := Lib.hid (egi_mod (j := 3) (v := .int .i64 0) (c := eb) (egi_mod (j := 7) (v := .pointer (some ⟨fp, 0, none⟩)) (c := c) HE11.out (by have := HS6.out; have := HCS.out; have := HO4.out; have := HS8.out; have := HZ7.out; omega)) (by have := HS6.out; have := HCS.out; have := HO4.out; have := HS8.out; have := HZ7.out; omega))
  have HG12 := Lib.hid (fgi_mod (j := 3) (v := .int .i64 0) (c := eb) (fgi_mod (j := 7) (v := .pointer (some ⟨fp, 0, none⟩)) (c := c) HFI.out (by have := HS6.out; have := HCS.out; have := HO4.out; have := HS8.out; have := HZ7.out; have := HS10.out; have := HZ9.out; omega)) (by have := HS6.out; have := HCS.out; have := HO4.out; have := HS8.out; have := HZ7.out; have := HS10.out; have := HZ9.out; omega))
  generalize hW12 : (w11.setCell ⟨c, 7, none⟩ (.pointer (some ⟨fp, 0, none⟩))).setCell ⟨eb, 3, none⟩ (.int .i64 0) = W12 at *
  clear hW12 HF11 HK11 HI11 HE11 HFI HF10 HK10 HI10 HE10
  obtain ⟨_, ⟨e0, e1, e2, e3⟩, _, _⟩ := HF12.out.cells
  rw [HS8.out] at HE12
  rw [HS10.out] at HG12
  have HFIN := Lib.hid (wn_made HCF.out.1 HCF.out.2.1 HCF.out.2.2 HF12.out.wp HK12.out HI12.out HE12.out HG12.out (by have := HS6.out; have := HCS.out; have := HO4.out; omega) ⟨HZ7.out, by have := HS8.out; have := HZ9.out; omega⟩ HSL.out HSE.out HFP.out HFE.out)
  go_wp2_with fail
  go_ret2
  exact HFIN.out
end Go.Proofs.YtlooaipipmiijaaGreat
