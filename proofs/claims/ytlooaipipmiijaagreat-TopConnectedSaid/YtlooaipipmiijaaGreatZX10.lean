/- Several texts in one: ArC, ArD. -/
import Derived.Test.YtlooaipipmiijaaGreatZX09
import Derived.Deep.CutBlock
import Derived.Deep.RegionHeld3
import Derived.Deep.DeepCutAuto
namespace Go.Proofs.YtlooaipipmiijaaGreat
set_option linter.unusedVariables false
set_option linter.unusedSimpArgs false
open Go.RowKit
theorem uR_uR (R : Nat → SlR) (i : Nat) (r s : SlR) : updR (updR R i r) i s = updR R i s := by
  funext x
  by_cases e : x = i
  · subst e; rw [uR_same, uR_same]
  · rw [uR_ne _ _ e, uR_ne _ _ e, uR_ne _ _ e]
theorem Mod.wide {F F' : Nat → Prop} {w w' : World} (h : Mod F w w') (hF : ∀ k, F k → F' k) : Mod F' w w' := ⟨h.os, h.tape, h.output, h.size, fun k hk hn => h.block k hk (fun c => hn (hF k c))⟩
def sl0 : SlR := ⟨0, 0, 0⟩
theorem Mod.wideLt {F F' : Nat → Prop} {w w' : World} (h : Mod F w w') (hF : ∀ k, k < w.heap.size → F k → F' k) : Mod F' w w' := ⟨h.os, h.tape, h.output, h.size, fun k hk hn => h.block k hk (fun c => hn (hF k hk c))⟩
theorem Tryz.zeroABlock : (Tryz.prog.info? 177).bind (·.zero) = some (.agg (pgCells (fun _ => sl0) 0).toArray) := by kernel_rfl
theorem Tryz.infoPABlock : (Tryz.prog.info? 175).map (fun i => (i.zero, i.size, i.bytes)) = some (some (.pointer none), 1, 8) := by kernel_rfl
theorem ArR.begun {w : World} {b : Nat} {G : AG} {S beg used : Nat} {last : Int} {R : Nat → SlR} (h : ArR w b G S beg used last R) (hn : beg % 64 ≠ 0) : ArR (w.setCell ⟨b, 3, none⟩ (.int .i64 ((beg : Int) + 1))) b G S (beg + 1) used last R := by
  have m := (Mod.refl (fun x => x = b) w).setCell ⟨b, 3, none⟩ (fun _ => rfl) (.int .i64 ((beg : Int) + 1))
  refine ⟨h.box.set 3 _, owns_modL h.row m (fun x e => fun hx => h.d1 (by rw [← hx]; exact e)), fun j hj => (h.pg j hj).mod m (h.d2 j hj).1, h.d1, h.d2, h.d3, ?_⟩
  have := h.np
  omega
def freshR (beg : Nat) (R : Nat → SlR) : Nat → SlR := fun x => if x < beg then R x else sl0
theorem ArP.fresh {S beg used : Nat} {last : Int} {R : Nat → SlR} {Lv : Nat → Prop} (h : ArP S beg used last R Lv) : ArP S beg used last (freshR beg R) Lv := by
  have e : ∀ x, x < beg → freshR beg R x = R x := fun x hx => if_pos hx
  refine ⟨fun x => ?_, fun x hx => by rw [e x hx]; exact h.st x hx, ?_, h.us, h.bg, h.ss⟩
  · rw [h.lv x]
    exact ⟨fun q => ⟨q.1, by rw [e x q.1]; exact q.2⟩, fun q => ⟨q.1, by rw [← e x q.1]; exact q.2⟩⟩
  · obtain ⟨l, h1, h2, h3⟩ := h.ch
    refine ⟨l, h1, fun x => ?_, ?_⟩
    · rw [h2 x]
      exact ⟨fun q => ⟨q.1, by rw [e x q.1]; exact q.2⟩, fun q => ⟨q.1, by rw [← e x q.1]; exact q.2⟩⟩
    · have key : ∀ (l : List Nat) (hd : Int), (∀ x ∈ l, x < beg) → Chn R hd l → Chn (freshR beg R) hd l := by
        intro l
        induction l with
        | nil => intro hd _ hc; exact hc
        | cons x l ih => intro hd hb hc; exact ⟨hc.1, by rw [e x (hb x (.head _))]; exact ih _ (fun y hy => hb y (.tail _ hy)) hc.2⟩
      exact key l _ (fun x hx => ((h2 x).1 hx).1) h3
theorem ArR.grow {w w2 w3 : World} {b : Nat} {G : AG} {S beg used : Nat} {last : Int} {R : Nat → SlR} (h : ArR w b G S beg used last R) (hb0 : beg % 64 = 0) (o : Obj) {q : Nat} (hb1 : Below w.heap.size w w2) (B1 : Blk w2 q 177 (pgCells (fun _ => sl0) 0)) (hq : w.heap.size ≤ q) {v : Value}
    (ho : w3.ownsRow 0 175 1 v (G.np + 1) (pRow G.np G.pl ++ [.pointer (some ⟨q, 0, none⟩)])) (hg : (w2.alloc o).grownBy w3 G.bv.ownBlock) (hk : ∀ k, v.ownBlock = some k → G.bv.ownBlock = some k ∨ (w2.alloc o).heap.size ≤ k) :
    Blk w3 b 161 [.pointer (some ⟨b, 0, none⟩), G.bv, .int .i64 (S : Int), .int .i64 (beg : Int), .int .i64 (used : Int), .int .i64 last] ∧
    ArR ((w3.setCell ⟨b, 1, none⟩ v).setCell ⟨b, 3, none⟩ (.int .i64 ((beg : Int) + 1))) b ⟨v, G.np + 1, fun j => if j = G.np then q else G.pl j⟩ S (beg + 1) used last (freshR beg R) ∧ Mod (G.foot b) w ((w3.setCell ⟨b, 1, none⟩ v).setCell ⟨b, 3, none⟩ (.int .i64 ((beg : Int) + 1))) := by
  have hs := hb1.size
  have h1 : Below w.heap.size w (w2.alloc o) := hb1.alloc hs o
  have hm := (Mod.of_below (F := fun k => G.bv.ownBlock = some k) h1).grown hg (fun k e _ => e)
  have hm2 := (Mod.refl (fun k => G.bv.ownBlock = some k) (w2.alloc o)).grown hg (fun k e _ => e)
  have hbl := h.box.lt
  have hql := B1.lt
  have hsz : (w2.alloc o).heap.size = w2.heap.size + 1 := by simp
  have box3 := h.box.mod hm h.d1
  have hvb : v.ownBlock ≠ some b := fun e => by
    rcases hk _ e with c | c
    · exact h.d1 c
    · omega
  have m := ((Mod.refl (fun x => x = b) w3).setCell ⟨b, 1, none⟩ (fun _ => rfl) v).setCell ⟨b, 3, none⟩ (fun _ => rfl) (.int .i64 ((beg : Int) + 1))
  have hnp := h.np
  have pgl : ∀ j, j < G.np → G.pl j < w.heap.size := fun j hj => (h.pg j hj).lt
  have hbq : G.bv.ownBlock ≠ some q := fun e => by have := (h.row.lt q e).2; omega
  refine ⟨box3, ⟨(box3.set 1 v).set 3 _, ?_, fun j hj => ?_, hvb, fun j hj => ?_, fun i j hi hj e => ?_, ?_⟩, ?_⟩
  · rw [pRow_snoc] at ho
    exact owns_modL ho m (fun x e => fun hx => hvb (by rw [← hx]; exact e))
  · show Blk _ (if j = G.np then q else G.pl j) _ _
    by_cases c : j = G.np
    · rw [if_pos c]
      have e2 : pgCells (freshR beg R) j = pgCells (fun _ => sl0) 0 := by
        unfold pgCells
        refine List.map_congr_left fun y hy => ?_
        rw [show freshR beg R (64 * j + y / 3) = sl0 from if_neg (by omega)]
      rw [e2]
      exact ((B1.alloc o).mod hm2 hbq).mod m (by show ¬ q = b; omega)
    · rw [if_neg c]
      have hj' : j < G.np := by have : j < G.np + 1 := hj; omega
      rw [pg_congr (R := R) (R' := freshR beg R) (fun x h1 h2 => if_pos (by omega))]
      exact ((h.pg j hj').mod hm (h.d2 j hj').2).mod m (h.d2 j hj').1
  · show (if j = G.np then q else G.pl j) ≠ b ∧ v.ownBlock ≠ some (if j = G.np then q else G.pl j)
    by_cases c : j = G.np
    · rw [if_pos c]
      refine ⟨by omega, fun e => ?_⟩
      rcases hk _ e with c | c
      · exact hbq c
      · omega
    · rw [if_neg c]
      have hj' : j < G.np := by have : j < G.np + 1 := hj; omega
      have := pgl j hj'
      refine ⟨(h.d2 j hj').1, fun e => ?_⟩
      rcases hk _ e with c | c
      · exact (h.d2 j hj').2 c
      · omega
  · have hi' : i < G.np + 1 := hi
    have hj' : j < G.np + 1 := hj
    have e' : (if i = G.np then q else G.pl i) = (if j = G.np then q else G.pl j) := e
    by_cases c : i = G.np <;> by_cases d : j = G.np
    · omega
    · rw [if_pos c, if_neg d] at e'; have := pgl j (by omega); omega
    · rw [if_neg c, if_pos d] at e'; have := pgl i (by omega); omega
    · rw [if_neg c, if_neg d] at e'; exact h.d3 i j (by omega) (by omega) e'
  · show G.np + 1 = _
    omega
  · exact ((hm.wide (fun k e => .inr (.inl e))).setCell ⟨b, 1, none⟩ (fun _ => .inl rfl) v).setCell ⟨b, 3, none⟩ (fun _ => .inl rfl) _
structure ArAl (w : World) (b S beg : Nat) (Lv F : Nat → Prop) (e : Ending) (w' : World) : Prop where
  no : cntP Lv S = S → e = .returned (.tuple #[.int .i64 0, .int .i64 4]) ∧ ArO w' b S beg Lv F ∧ Below w.heap.size w w'
  ok : cntP Lv S ≠ S → ∃ i beg', i < S ∧ ¬ Lv i ∧ (i < beg ∧ beg' = beg ∨ i = beg ∧ beg' = beg + 1) ∧ e = .returned (.tuple #[.int .i64 (i : Int), .int .i64 0]) ∧ ArO w' b S beg' (fun x => Lv x ∨ x = i) (fun k => F k ∨ w.heap.size ≤ k) ∧ Mod F w w'
set_option maxHeartbeats 4000000 in
set_option maxRecDepth 100000 in
theorem ar_alloc (w : World) (b S beg : Nat) (Lv F : Nat → Prop) (h : ArO w b S beg Lv F) : Calls Tryz.prog 89 #[.pointer (some ⟨b, 0, none⟩)] w (ArAl w b S beg Lv F) := by
  obtain ⟨G, used, last, R, hr, hp, hf⟩ := h
  have HF := Lib.hid hf
  have HV := Lib.hid (ar_valid b w hr.c0)
  have hN := ar_next w b G S beg used last R hr
  have HR := Lib.hid hr
  have HP := Lib.hid hp
  have hss := hp.ss
  have hbg := hp.bg
  have hnp := hr.np
  have HNP : Hid (G.np ≤ 1024) := by show _ ≤ _; omega
  have hus : used ≤ S := by rw [hp.us]; exact cntP_le _
  have HU : Hid (used ≤ 65536) := by show _ ≤ _; omega
  clear hf hr hp
  by_cases hl : last = -1
  · subst hl
    by_cases hb : beg < S
    · have hl1 : ((beg : Int) == -1) = false := by rw [beq_eq_false_iff_ne]; omega
      have e1 : nxV S beg (-1) = (beg : Int) := by unfold nxV; rw [if_pos rfl, if_pos hb]
      have e2 : nxB S beg (-1) = true := by unfold nxB; rw [if_pos rfl, decide_eq_true hb]
      rw [e1, e2] at hN
      have HN := Lib.hid hN
      have HFU : Hid (cntP Lv S ≠ S) := by
        show _ ≠ _
        rw [← HP.out.us]
        exact fun c => (HP.out.full.2 c).2 hb
      have HBS : Hid (beg < S ∧ S ≤ 65536) := ⟨hb, hss⟩
      have hw3 : IntKind.i64.wrap ((beg : Int) + 1) = (beg : Int) + 1 := IntWalk.i64_in _ (by omega)
      clear e1 e2 hN hss hbg hus hb
      go_enter Tryz.func89, Tryz.ntmps89
      go_upto_region 6 with (first | (go_at_call 99; refine HV.out.mono ?_; rintro e w' ⟨rfl, rfl⟩) | (go_at_call 121; refine HN.out.mono ?_; rintro e w1 ⟨rfl, hb1⟩; have HB1 := Lib.hid hb1; clear hb1))
      have HRB := Lib.hid (HR.out.below HB1.out)
      have c5 := HRB.out.c5
      go_upto_region 8 with fail
      clear c5
      by_cases hm : beg % 64 = 0
      · have t1 : decide (beg % 64 = 0) = true := decide_eq_true hm
        have t2 : (beg % 64 == 0) = true := by rw [hm]; rfl
        have t3 : ((((beg % 64 : Nat)) : Int) == 0) = true := by rw [hm]; rfl
        obtain ⟨ao, cap, hbv⟩ := owns_slice HRB.out.row
        have c1 := HRB.out.box.cell (i := 1) rfl
        rw [hbv] at c1
        have HBV := Lib.hid hbv
        have hbl := HRB.out.box.lt
        have HM0 := Lib.hid hm
        have HNQ := Lib.hid hnp
        obtain ⟨np, HNE⟩ : ∃ n, Hid (G.np = n) := ⟨_, rfl⟩
        rw [HNE.out] at c1
        have hnl : np ≤ 1024 := by rw [← HNE.out]; exact HNP.out
        clear hbv hnp hm
        go_wp2_with (with_reducible refine wpList_allocB _ Tryz.zeroABlock ?_)
        intro w2 B1 hb2
        have HB2 := Lib.hid hb2
        have HPG : Hid (Blk w2 w1.heap.size 177 (pgCells (fun _ => sl0) 0)) := B1
        have c1' : w2.cell? ⟨b, 1, none⟩ = some (.slice ao np cap) := (hb2.cell hbl).trans c1
        have hown : Hid ((w2.alloc (.cells #[.pointer (some ⟨w1.heap.size, 0, none⟩)] 175)).ownsRow 0 175 1 (.slice ao np cap) np (pRow np G.pl)) := by
          have := (owns_same HRB.out.row (w' := w2) (fun k e => HB2.out.block k (HRB.out.row.lt k e).2)).alloc (.cells #[.pointer (some ⟨w1.heap.size, 0, none⟩)] 175)
          rw [HBV.out, HNE.out] at this
          exact this
        have hnews : Hid (∀ j u, [Value.pointer (some ⟨w1.heap.size, 0, none⟩)][j]? = some u → (w2.alloc (.cells #[.pointer (some ⟨w1.heap.size, 0, none⟩)] 175)).cell? ((⟨w2.heap.size, 0, none⟩ : Addr).add j) = some u) := news_new w2 _ _
        clear B1 hb2 c1
        go_wp2_with (at_builtin; with_reducible refine wpList_appendB 175 (.pointer none) 1 8 Tryz.underlying159 Tryz.infoPABlock rfl (by decide) (.slice ao np cap) np (pRow np G.pl) rfl hown.out ⟨w2.heap.size, 0, none⟩ 1 1 [.pointer (some ⟨w1.heap.size, 0, none⟩)] rfl rfl hnews.out (by simp [Value.oneCell']) (by unfold maxLen; omega) (by omega) ?_)
        intro v' w3 ho hg hk
        obtain ⟨ao2, cap2, rfl⟩ := owns_slice ho
        have hgr := HRB.out.grow HM0.out (.cells #[.pointer (some ⟨w1.heap.size, 0, none⟩)] 175) HB2.out HPG.out (Nat.le_refl _) (v := (Value.slice ao2 (np + 1) cap2)) (w3 := w3) (by rw [HNE.out]; exact ho) (by rw [HBV.out, HNE.out]; exact hg) (fun k e => by rw [HBV.out, HNE.out]; exact hk k e)
        obtain ⟨box3, hr1, hmd⟩ := hgr
        have HFT : Hid (∀ k, AG.foot ⟨(Value.slice ao2 (np + 1) cap2), G.np + 1, fun j => if j = G.np then w1.heap.size else G.pl j⟩ b k → F k ∨ w.heap.size ≤ k) := by
          have hs1 := HB1.out.size
          have hs2 := HB2.out.size
          rintro k (e | e | ⟨j, hj, e⟩)
          · exact .inl (HF.out k (.inl e))
          · rcases hk k e with c | c
            · exact .inl (HF.out k (.inr (.inl (by rw [HBV.out, HNE.out]; exact c))))
            · have : (w2.alloc (.cells #[.pointer (some ⟨w1.heap.size, 0, none⟩)] 175)).heap.size = w2.heap.size + 1 := by simp
              exact .inr (by omega)
          · have e' : (if j = G.np then w1.heap.size else G.pl j) = k := e
            by_cases c : j = G.np
            · rw [if_pos c] at e'; exact .inr (by omega)
            · rw [if_neg c] at e'
              have hj' : j < G.np + 1 := hj
              exact .inl (HF.out k (.inr (.inr ⟨j, by omega, e'⟩)))
        have HI : Hid (beg / 64 < G.np + 1) := by show _ < _; have := HNQ.out; omega
        have HNP2 : Hid (G.np + 1 ≤ 1024) := by show _ ≤ _; have := HNQ.out; have := HBS.out; have := HM0.out; omega
        have HMD : Hid (Mod F w ((w3.setCell ⟨b, 1, none⟩ (Value.slice ao2 (np + 1) cap2)).setCell ⟨b, 3, none⟩ (.int .i64 ((beg : Int) + 1)))) := (Mod.of_below (F := F) HB1.out).trans (hmd.wide (fun k e => HF.out k e)) (fun _ _ h => h)
        have d1 := box3.cell (i := 1) rfl
        have f1 := box3.free 1
        have d3 : (w3.setCell ⟨b, 1, none⟩ (Value.slice ao2 (np + 1) cap2)).cell? ⟨b, 3, none⟩ = some (.int .i64 (beg : Int)) := (box3.set 1 (Value.slice ao2 (np + 1) cap2)).cell (i := 3) rfl
        have f3 := (box3.set 1 (Value.slice ao2 (np + 1) cap2)).free 3
        have HR0 := Lib.hid hr1
        clear box3 hr1 hmd ho hg hk hown hnews c1'
        rw [HBV.out] at d1
        obtain ⟨G2, HG2⟩ : ∃ G2 : AG, Hid ((⟨(Value.slice ao2 (np + 1) cap2), G.np + 1, fun j => if j = G.np then w1.heap.size else G.pl j⟩ : AG) = G2) := ⟨_, rfl⟩
        have HNP3 : Hid (G2.np = G.np + 1) := by show _ = _; rw [← HG2.out]
        rw [HG2.out] at HR0 HFT
        rw [← HNP3.out] at HI HNP2
        obtain ⟨W1, HW1⟩ : ∃ W1, Hid ((w3.setCell ⟨b, 1, none⟩ (Value.slice ao2 (np + 1) cap2)).setCell ⟨b, 3, none⟩ (.int .i64 ((beg : Int) + 1)) = W1) := ⟨_, rfl⟩
        rw [HW1.out] at HR0 HMD
        go_upto_region 11 with fail
        clear d1 f1 d3 f3 t1 t2 t3
        simp only [HW1.out]
        have HR1 := HR0
        have HM1 : Hid (Mod (fun k => F k ∨ w.heap.size ≤ k) w W1) := HMD.out.wide (fun k e => .inl e)
        clear HMD HPG HB2 HBV HNE hnl hbl
        have HA := Lib.hid (ar_at W1 b G2 S (beg + 1) used (-1) (freshR beg R) HR1.out beg HI.out HNP2.out)
        go_upto_region 12 with (go_at_call 101; refine HA.out.mono ?_; rintro e w' ⟨rfl, rfl⟩)
        obtain ⟨p0, f0⟩ := HR1.out.cell (i := beg) (c := 0) HI.out (by decide)
        have p0' : W1.cell? ⟨G2.pl (beg / 64), beg % 64 * 3, none⟩ = some (.int .i64 ((freshR beg R) beg).st) := p0
        have f0' : W1.frozen? ⟨G2.pl (beg / 64), beg % 64 * 3, none⟩ = false := f0
        have HR2 := Lib.hid (HR1.out.slot (i := beg) (c := 0) (r := ⟨1, ((freshR beg R) beg).af, ((freshR beg R) beg).tm⟩) HI.out (by decide) (fun d h1 h2 => by match d, h1 with | 0, _ => exact absurd rfl h2 | 1, _ => rfl | 2, _ => rfl) (u := .int .i64 1) rfl)
        have HM2 : Hid (Mod (fun k => F k ∨ w.heap.size ≤ k) w (W1.setCell ⟨G2.pl (beg / 64), beg % 64 * 3 + 0, none⟩ (.int .i64 1))) := HM1.out.setCell _ (fun _ => HFT.out _ (.inr (.inr ⟨_, HI.out, rfl⟩))) _
        clear p0 f0
        go_upto_region 13 with fail
        clear p0' f0'
        rw [Nat.add_zero] at HR2 HM2
        generalize W1.setCell ⟨G2.pl (beg / 64), beg % 64 * 3, none⟩ (.int .i64 1) = W2 at *
        obtain ⟨p1, f1⟩ := HR2.out.cell (i := beg) (c := 1) HI.out (by decide)
        rw [uR_same] at p1
        have HR3 := Lib.hid (HR2.out.slot (i := beg) (c := 1) (r := ⟨1, -1, ((freshR beg R) beg).tm⟩) HI.out (by decide) (fun d h1 h2 => by rw [uR_same]; match d, h1 with | 0, _ => rfl | 1, _ => exact absurd rfl h2 | 2, _ => rfl) (u := .int .i64 (-1)) rfl)
        have HM3 : Hid (Mod (fun k => F k ∨ w.heap.size ≤ k) w (W2.setCell ⟨G2.pl (beg / 64), beg % 64 * 3 + 1, none⟩ (.int .i64 (-1)))) := HM2.out.setCell _ (fun _ => HFT.out _ (.inr (.inr ⟨_, HI.out, rfl⟩))) _
        rw [uR_uR] at HR3
        have p1' : W2.cell? ⟨G2.pl (beg / 64), beg % 64 * 3 + 1, none⟩ = some (.int .i64 ((freshR beg R) beg).af) := p1
        clear p1
        go_upto_region 14 with fail
        clear p1' f1
        generalize W2.setCell ⟨G2.pl (beg / 64), beg % 64 * 3 + 1, none⟩ (.int .i64 (-1)) = W3 at *
        obtain ⟨p2, f2⟩ := HR3.out.cell (i := beg) (c := 2) HI.out (by decide)
        rw [uR_same] at p2
        have p2' : W3.cell? ⟨G2.pl (beg / 64), beg % 64 * 3 + 2, none⟩ = some (.int .u64 ((freshR beg R) beg).tm) := p2
        clear p2
        have HR4 := Lib.hid (HR3.out.slot (i := beg) (c := 2) (r := ⟨1, -1, IntKind.u64.wrap (((freshR beg R) beg).tm + 1)⟩) HI.out (by decide) (fun d h1 h2 => by rw [uR_same]; match d, h1 with | 0, _ => rfl | 1, _ => rfl | 2, _ => exact absurd rfl h2) (u := .int .u64 (IntKind.u64.wrap (((freshR beg R) beg).tm + 1))) rfl)
        have HM4 : Hid (Mod (fun k => F k ∨ w.heap.size ≤ k) w (W3.setCell ⟨G2.pl (beg / 64), beg % 64 * 3 + 2, none⟩ (.int .u64 (IntKind.u64.wrap (((freshR beg R) beg).tm + 1))))) := HM3.out.setCell _ (fun _ => HFT.out _ (.inr (.inr ⟨_, HI.out, rfl⟩))) _
        rw [uR_uR] at HR4
        go_upto_region 15 with fail
        clear p2' f2
        generalize W3.setCell ⟨G2.pl (beg / 64), beg % 64 * 3 + 2, none⟩ (.int .u64 (IntKind.u64.wrap (((freshR beg R) beg).tm + 1))) = W4 at *
        have c4 := HR4.out.c4
        have f4 := HR4.out.box.free 4
        have hw4 : IntKind.i64.wrap ((used : Int) + 1) = (used : Int) + 1 := IntWalk.i64_in _ (by have := HU.out; omega)
        have HR5 := Lib.hid (HR4.out.field (used' := used + 1) (last' := (-1)) 4 (.int .i64 ((used : Int) + 1)) rfl)
        have HM5 : Hid (Mod (fun k => F k ∨ w.heap.size ≤ k) w (W4.setCell ⟨b, 4, none⟩ (.int .i64 ((used : Int) + 1)))) := HM4.out.setCell _ (fun _ => HFT.out _ (.inl rfl)) _
        go_wp2_with fail
        go_ret2
        have hag := HP.out.fresh.more rfl HBS.out.1 (IntKind.u64.wrap ((freshR beg R beg).tm + 1))
        exact ⟨fun h => absurd h HFU.out, fun _ => ⟨beg, beg + 1, HBS.out.1, hag.2, .inr ⟨rfl, rfl⟩, rfl, ⟨G2, used + 1, -1, _, HR5.out, hag.1, fun k hk => HFT.out k hk⟩, HM5.out.wideLt (fun k hk e => by
          rcases e with e | e
          · exact e
          · omega)⟩⟩
      · have t1 : decide (beg % 64 = 0) = false := decide_eq_false hm
        have t2 : (beg % 64 == 0) = false := by rw [beq_eq_false_iff_ne]; exact hm
        have t3 : ((((beg % 64 : Nat)) : Int) == 0) = false := by rw [beq_eq_false_iff_ne]; omega
        have HI : Hid (beg / 64 < G.np) := by show _ < _; omega
        have c3 := HRB.out.c3
        have f3 := HRB.out.box.free 3
        have HR1 := Lib.hid (HRB.out.begun hm)
        have HM1 : Hid (Mod (G.foot b) w (w1.setCell ⟨b, 3, none⟩ (.int .i64 ((beg : Int) + 1)))) := (Mod.of_below (F := G.foot b) HB1.out).setCell _ (fun _ => .inl rfl) _
        clear hnp hm
        go_upto_region 11 with fail
        clear c3 f3 t1 t2 t3
        generalize w1.setCell ⟨b, 3, none⟩ (.int .i64 ((beg : Int) + 1)) = W1 at *
        have HA := Lib.hid (ar_at W1 b G S (beg + 1) used (-1) R HR1.out beg HI.out HNP.out)
        go_upto_region 12 with (go_at_call 101; refine HA.out.mono ?_; rintro e w' ⟨rfl, rfl⟩)
        obtain ⟨p0, f0⟩ := HR1.out.cell (i := beg) (c := 0) HI.out (by decide)
        have p0' : W1.cell? ⟨G.pl (beg / 64), beg % 64 * 3, none⟩ = some (.int .i64 (R beg).st) := p0
        have f0' : W1.frozen? ⟨G.pl (beg / 64), beg % 64 * 3, none⟩ = false := f0
        have HR2 := Lib.hid (HR1.out.slot (i := beg) (c := 0) (r := ⟨1, (R beg).af, (R beg).tm⟩) HI.out (by decide) (fun d h1 h2 => by match d, h1 with | 0, _ => exact absurd rfl h2 | 1, _ => rfl | 2, _ => rfl) (u := .int .i64 1) rfl)
        have HM2 : Hid (Mod (G.foot b) w (W1.setCell ⟨G.pl (beg / 64), beg % 64 * 3 + 0, none⟩ (.int .i64 1))) := HM1.out.setCell _ (fun _ => .inr (.inr ⟨_, HI.out, rfl⟩)) _
        clear p0 f0
        go_upto_region 13 with fail
        clear p0' f0'
        rw [Nat.add_zero] at HR2 HM2
        generalize W1.setCell ⟨G.pl (beg / 64), beg % 64 * 3, none⟩ (.int .i64 1) = W2 at *
        obtain ⟨p1, f1⟩ := HR2.out.cell (i := beg) (c := 1) HI.out (by decide)
        rw [uR_same] at p1
        have HR3 := Lib.hid (HR2.out.slot (i := beg) (c := 1) (r := ⟨1, -1, (R beg).tm⟩) HI.out (by decide) (fun d h1 h2 => by rw [uR_same]; match d, h1 with | 0, _ => rfl | 1, _ => exact absurd rfl h2 | 2, _ => rfl) (u := .int .i64 (-1)) rfl)
        have HM3 : Hid (Mod (G.foot b) w (W2.setCell ⟨G.pl (beg / 64), beg % 64 * 3 + 1, none⟩ (.int .i64 (-1)))) := HM2.out.setCell _ (fun _ => .inr (.inr ⟨_, HI.out, rfl⟩)) _
        rw [uR_uR] at HR3
        have p1' : W2.cell? ⟨G.pl (beg / 64), beg % 64 * 3 + 1, none⟩ = some (.int .i64 (R beg).af) := p1
        clear p1
        go_upto_region 14 with fail
        clear p1' f1
        generalize W2.setCell ⟨G.pl (beg / 64), beg % 64 * 3 + 1, none⟩ (.int .i64 (-1)) = W3 at *
        obtain ⟨p2, f2⟩ := HR3.out.cell (i := beg) (c := 2) HI.out (by decide)
        rw [uR_same] at p2
        have p2' : W3.cell? ⟨G.pl (beg / 64), beg % 64 * 3 + 2, none⟩ = some (.int .u64 (R beg).tm) := p2
        clear p2
        have HR4 := Lib.hid (HR3.out.slot (i := beg) (c := 2) (r := ⟨1, -1, IntKind.u64.wrap ((R beg).tm + 1)⟩) HI.out (by decide) (fun d h1 h2 => by rw [uR_same]; match d, h1 with | 0, _ => rfl | 1, _ => rfl | 2, _ => exact absurd rfl h2) (u := .int .u64 (IntKind.u64.wrap ((R beg).tm + 1))) rfl)
        have HM4 : Hid (Mod (G.foot b) w (W3.setCell ⟨G.pl (beg / 64), beg % 64 * 3 + 2, none⟩ (.int .u64 (IntKind.u64.wrap ((R beg).tm + 1))))) := HM3.out.setCell _ (fun _ => .inr (.inr ⟨_, HI.out, rfl⟩)) _
        rw [uR_uR] at HR4
        go_upto_region 15 with fail
        clear p2' f2
        generalize W3.setCell ⟨G.pl (beg / 64), beg % 64 * 3 + 2, none⟩ (.int .u64 (IntKind.u64.wrap ((R beg).tm + 1))) = W4 at *
        have c4 := HR4.out.c4
        have f4 := HR4.out.box.free 4
        have hw4 : IntKind.i64.wrap ((used : Int) + 1) = (used : Int) + 1 := IntWalk.i64_in _ (by have := HU.out; omega)
        have HR5 := Lib.hid (HR4.out.field (used' := used + 1) (last' := (-1)) 4 (.int .i64 ((used : Int) + 1)) rfl)
        have HM5 : Hid (Mod (G.foot b) w (W4.setCell ⟨b, 4, none⟩ (.int .i64 ((used : Int) + 1)))) := HM4.out.setCell _ (fun _ => .inl rfl) _
        go_wp2_with fail
        go_ret2
        have hag := HP.out.more rfl HBS.out.1 (IntKind.u64.wrap ((R beg).tm + 1))
        exact ⟨fun h => absurd h HFU.out, fun _ => ⟨beg, beg + 1, HBS.out.1, hag.2, .inr ⟨rfl, rfl⟩, rfl, ⟨G, used + 1, -1, _, HR5.out, hag.1, fun k hk => .inl (HF.out k hk)⟩, HM5.out.wide (fun k hk => HF.out k hk)⟩⟩
    · have e1 : nxV S beg (-1) = 0 := by unfold nxV; rw [if_pos rfl, if_neg hb]
      have e2 : nxB S beg (-1) = false := by unfold nxB; rw [if_pos rfl, decide_eq_false hb]
      rw [e1, e2] at hN
      have HN := Lib.hid hN
      have HFU : Hid (cntP Lv S = S) := by show _ = _; rw [← HP.out.us]; exact HP.out.full.1 ⟨rfl, hb⟩
      clear e1 e2 hN hb hss hbg hnp hus
      go_enter Tryz.func89, Tryz.ntmps89
      go_wp2_with (first | (go_at_call 99; refine HV.out.mono ?_; rintro e w' ⟨rfl, rfl⟩) | (go_at_call 121; refine HN.out.mono ?_; rintro e w1 ⟨rfl, hb1⟩; have HB1 := Lib.hid hb1; clear hb1))
      go_ret2
      exact ⟨fun _ => ⟨rfl, ⟨G, used, -1, R, HR.out.below HB1.out, HP.out, HF.out⟩, HB1.out⟩, fun h => absurd HFU.out h⟩
  · obtain ⟨i, HIL, hib, _⟩ := HP.out.head hl
    subst HIL
    have e1 : nxV S beg (i : Int) = (i : Int) := by unfold nxV; rw [if_neg hl]
    have e2 : nxB S beg (i : Int) = true := by unfold nxB; rw [if_neg hl]
    rw [e1, e2] at hN
    have HN := Lib.hid hN
    have HI : Hid (i / 64 < G.np) := by show _ < _; omega
    have HFU : Hid (cntP Lv S ≠ S) := by
      show _ ≠ _
      rw [← HP.out.us]
      exact fun c => hl (HP.out.full.2 c).1
    have HIS : Hid (i < S) := by show _ < _; omega
    clear e1 e2 hN hss hbg hnp hus hl hib
    go_enter Tryz.func89, Tryz.ntmps89
    go_upto_region 6 with (first | (go_at_call 99; refine HV.out.mono ?_; rintro e w' ⟨rfl, rfl⟩) | (go_at_call 121; refine HN.out.mono ?_; rintro e w1 ⟨rfl, hb1⟩; have HB1 := Lib.hid hb1; clear hb1))
    have HRB := Lib.hid (HR.out.below HB1.out)
    have HAT := Lib.hid (ar_at w1 b G S beg used (i : Int) R HRB.out i HI.out HNP.out)
    have c5 := HRB.out.c5
    have f5 := HRB.out.box.free 5
    obtain ⟨q1, _⟩ := HRB.out.cell (i := i) (c := 1) HI.out (by decide)
    have q1' : w1.cell? ⟨G.pl (i / 64), i % 64 * 3 + 1, none⟩ = some (.int .i64 (R i).af) := q1
    clear q1
    have HR1 := Lib.hid (HRB.out.field (used' := used) (last' := (R i).af) 5 (.int .i64 (R i).af) rfl)
    have HM1 : Hid (Mod (G.foot b) w (w1.setCell ⟨b, 5, none⟩ (.int .i64 (R i).af))) := (Mod.of_below (F := G.foot b) HB1.out).setCell _ (fun _ => .inl rfl) _
    go_upto_region 11 with (go_at_call 101; refine HAT.out.mono ?_; rintro e w' ⟨rfl, rfl⟩)
    clear c5 f5 q1'
    generalize w1.setCell ⟨b, 5, none⟩ (.int .i64 (R i).af) = W1 at *
    have HA := Lib.hid (ar_at W1 b G S beg used (R i).af R HR1.out i HI.out HNP.out)
    go_upto_region 12 with (go_at_call 101; refine HA.out.mono ?_; rintro e w' ⟨rfl, rfl⟩)
    obtain ⟨p0, f0⟩ := HR1.out.cell (i := i) (c := 0) HI.out (by decide)
    have p0' : W1.cell? ⟨G.pl (i / 64), i % 64 * 3, none⟩ = some (.int .i64 (R i).st) := p0
    have f0' : W1.frozen? ⟨G.pl (i / 64), i % 64 * 3, none⟩ = false := f0
    have HR2 := Lib.hid (HR1.out.slot (i := i) (c := 0) (r := ⟨1, (R i).af, (R i).tm⟩) HI.out (by decide) (fun d h1 h2 => by match d, h1 with | 0, _ => exact absurd rfl h2 | 1, _ => rfl | 2, _ => rfl) (u := .int .i64 1) rfl)
    have HM2 : Hid (Mod (G.foot b) w (W1.setCell ⟨G.pl (i / 64), i % 64 * 3 + 0, none⟩ (.int .i64 1))) := HM1.out.setCell _ (fun _ => .inr (.inr ⟨_, HI.out, rfl⟩)) _
    clear p0 f0
    go_upto_region 13 with fail
    clear p0' f0'
    rw [Nat.add_zero] at HR2 HM2
    generalize W1.setCell ⟨G.pl (i / 64), i % 64 * 3, none⟩ (.int .i64 1) = W2 at *
    obtain ⟨p1, f1⟩ := HR2.out.cell (i := i) (c := 1) HI.out (by decide)
    rw [uR_same] at p1
    have HR3 := Lib.hid (HR2.out.slot (i := i) (c := 1) (r := ⟨1, -1, (R i).tm⟩) HI.out (by decide) (fun d h1 h2 => by rw [uR_same]; match d, h1 with | 0, _ => rfl | 1, _ => exact absurd rfl h2 | 2, _ => rfl) (u := .int .i64 (-1)) rfl)
    have HM3 : Hid (Mod (G.foot b) w (W2.setCell ⟨G.pl (i / 64), i % 64 * 3 + 1, none⟩ (.int .i64 (-1)))) := HM2.out.setCell _ (fun _ => .inr (.inr ⟨_, HI.out, rfl⟩)) _
    rw [uR_uR] at HR3
    have p1' : W2.cell? ⟨G.pl (i / 64), i % 64 * 3 + 1, none⟩ = some (.int .i64 (R i).af) := p1
    clear p1
    go_upto_region 14 with fail
    clear p1' f1
    generalize W2.setCell ⟨G.pl (i / 64), i % 64 * 3 + 1, none⟩ (.int .i64 (-1)) = W3 at *
    obtain ⟨p2, f2⟩ := HR3.out.cell (i := i) (c := 2) HI.out (by decide)
    rw [uR_same] at p2
    have p2' : W3.cell? ⟨G.pl (i / 64), i % 64 * 3 + 2, none⟩ = some (.int .u64 (R i).tm) := p2
    clear p2
    have HR4 := Lib.hid (HR3.out.slot (i := i) (c := 2) (r := ⟨1, -1, IntKind.u64.wrap ((R i).tm + 1)⟩) HI.out (by decide) (fun d h1 h2 => by rw [uR_same]; match d, h1 with | 0, _ => rfl | 1, _ => rfl | 2, _ => exact absurd rfl h2) (u := .int .u64 (IntKind.u64.wrap ((R i).tm + 1))) rfl)
    have HM4 : Hid (Mod (G.foot b) w (W3.setCell ⟨G.pl (i / 64), i % 64 * 3 + 2, none⟩ (.int .u64 (IntKind.u64.wrap ((R i).tm + 1))))) := HM3.out.setCell _ (fun _ => .inr (.inr ⟨_, HI.out, rfl⟩)) _
    rw [uR_uR] at HR4
    go_upto_region 15 with fail
    clear p2' f2
    generalize W3.setCell ⟨G.pl (i / 64), i % 64 * 3 + 2, none⟩ (.int .u64 (IntKind.u64.wrap ((R i).tm + 1))) = W4 at *
    have c4 := HR4.out.c4
    have f4 := HR4.out.box.free 4
    have hw4 : IntKind.i64.wrap ((used : Int) + 1) = (used : Int) + 1 := IntWalk.i64_in _ (by have := HU.out; omega)
    have HR5 := Lib.hid (HR4.out.field (used' := used + 1) (last' := (R i).af) 4 (.int .i64 ((used : Int) + 1)) rfl)
    have HM5 : Hid (Mod (G.foot b) w (W4.setCell ⟨b, 4, none⟩ (.int .i64 ((used : Int) + 1)))) := HM4.out.setCell _ (fun _ => .inl rfl) _
    go_wp2_with fail
    go_ret2
    have hag := HP.out.again (x := i) rfl (IntKind.u64.wrap ((R i).tm + 1))
    exact ⟨fun h => absurd h HFU.out, fun _ => ⟨i, beg, HIS.out, hag.2.1, .inl ⟨hag.2.2, rfl⟩, rfl, ⟨G, used + 1, (R i).af, _, HR5.out, hag.1, fun k hk => .inl (HF.out k hk)⟩, HM5.out.wide (fun k hk => HF.out k hk)⟩⟩
end Go.Proofs.YtlooaipipmiijaaGreat

namespace Go.Proofs.YtlooaipipmiijaaGreat
set_option linter.unusedVariables false
set_option linter.unusedSimpArgs false
open Go.RowKit
structure ArFr (w : World) (b S beg i : Nat) (Lv F : Nat → Prop) (e : Ending) (w' : World) : Prop where
  out : e = .returned (.int .i64 0)
  obj : ArO w' b S beg (fun x => Lv x ∧ x ≠ i) F
  mod : Mod F w w'
set_option maxHeartbeats 4000000 in
set_option maxRecDepth 100000 in
theorem ar_free (w : World) (b S beg i : Nat) (Lv F : Nat → Prop) (h : ArO w b S beg Lv F) (hi : Lv i) : Calls Tryz.prog 59 #[.pointer (some ⟨b, 0, none⟩), .int .i64 i] w (ArFr w b S beg i Lv F) := by
  obtain ⟨G, used, last, R, hr, hp, hf⟩ := h
  have HF := Lib.hid hf
  have HV := Lib.hid (ar_valid b w hr.c0)
  have hss := hp.ss
  have hbg := hp.bg
  have hnp := hr.np
  obtain ⟨hib, hst⟩ := (hp.lv i).1 hi
  have HNP : Hid (G.np ≤ 1024) := by show _ ≤ _; omega
  have HI : Hid (i / 64 < G.np) := by show _ < _; omega
  obtain ⟨hag, hu1⟩ := hp.back hi
  have hus : used ≤ S := by rw [hp.us]; exact cntP_le _
  have hS := ar_state w b G S beg used last R hr (by omega) i
  rw [if_pos hib, hst] at hS
  have HS := Lib.hid hS
  have HA := Lib.hid (ar_at w b G S beg used last R hr i HI.out HNP.out)
  have HAG := Lib.hid hag
  have c2 := hr.c2
  have t1 : decide ((i : Int) < 0) = false := decide_eq_false (by omega)
  have t2 : decide ((S : Int) ≤ (i : Int)) = false := decide_eq_false (by omega)
  have t3 : decide (S ≤ i) = false := decide_eq_false (by omega)
  have hw4 : IntKind.i64.wrap ((used : Int) - 1) = ((used - 1 : Nat) : Int) := by rw [IntWalk.i64_in _ (by omega)]; omega
  have HR := Lib.hid hr
  clear hf hr hp hi hss hbg hnp hib hag hus hS
  obtain ⟨p0, f0⟩ := HR.out.cell (i := i) (c := 0) HI.out (by decide)
  have p0' : w.cell? ⟨G.pl (i / 64), i % 64 * 3, none⟩ = some (.int .i64 (R i).st) := p0
  have f0' : w.frozen? ⟨G.pl (i / 64), i % 64 * 3, none⟩ = false := f0
  have HR1 := Lib.hid (HR.out.slot (i := i) (c := 0) (r := ⟨2, (R i).af, (R i).tm⟩) HI.out (by decide) (fun d h1 h2 => by match d, h1 with | 0, _ => exact absurd rfl h2 | 1, _ => rfl | 2, _ => rfl) (u := .int .i64 2) rfl)
  have HM1 : Hid (Mod (G.foot b) w (w.setCell ⟨G.pl (i / 64), i % 64 * 3 + 0, none⟩ (.int .i64 2))) := (Mod.refl (G.foot b) w).setCell _ (fun _ => .inr (.inr ⟨_, HI.out, rfl⟩)) _
  rw [Nat.add_zero] at HR1 HM1
  clear p0 f0 hst
  go_enter Tryz.func59, Tryz.ntmps59
  go_upto_region 9 with (first | (go_at_call 99; refine HV.out.mono ?_; rintro e w' ⟨rfl, rfl⟩) | (go_at_call 100; refine HS.out.mono ?_; rintro e w' ⟨rfl, rfl⟩) | (go_at_call 101; refine HA.out.mono ?_; rintro e w' ⟨rfl, rfl⟩))
  clear c2 t1 t2 t3 p0' f0'
  generalize World.setCell _ _ (.int .i64 2) = W1 at *
  have c5 := HR1.out.c5
  obtain ⟨p1, f1⟩ := HR1.out.cell (i := i) (c := 1) HI.out (by decide)
  rw [uR_same] at p1
  have p1' : W1.cell? ⟨G.pl (i / 64), i % 64 * 3 + 1, none⟩ = some (.int .i64 (R i).af) := p1
  have HR2 := Lib.hid (HR1.out.slot (i := i) (c := 1) (r := ⟨2, last, (R i).tm⟩) HI.out (by decide) (fun d h1 h2 => by rw [uR_same]; match d, h1 with | 0, _ => rfl | 1, _ => exact absurd rfl h2 | 2, _ => rfl) (u := .int .i64 last) rfl)
  have HM2 : Hid (Mod (G.foot b) _ (W1.setCell ⟨G.pl (i / 64), i % 64 * 3 + 1, none⟩ (.int .i64 last))) := HM1.out.setCell _ (fun _ => .inr (.inr ⟨_, HI.out, rfl⟩)) _
  rw [uR_uR] at HR2
  clear p1
  go_upto_region 10 with fail
  clear c5 p1' f1
  generalize W1.setCell ⟨G.pl (i / 64), i % 64 * 3 + 1, none⟩ (.int .i64 last) = W2 at *
  have c5 := HR2.out.c5
  have f5 := HR2.out.box.free 5
  have HR3 := Lib.hid (HR2.out.field (used' := used) (last' := (i : Int)) 5 (.int .i64 (i : Int)) rfl)
  have HM3 : Hid (Mod (G.foot b) _ (W2.setCell ⟨b, 5, none⟩ (.int .i64 (i : Int)))) := HM2.out.setCell _ (fun _ => .inl rfl) _
  go_upto_region 11 with fail
  clear c5 f5
  generalize W2.setCell ⟨b, 5, none⟩ (.int .i64 (i : Int)) = W3 at *
  have c4 := HR3.out.c4
  have f4 := HR3.out.box.free 4
  have HR4 := Lib.hid (HR3.out.field (used' := used - 1) (last' := (i : Int)) 4 (.int .i64 ((used - 1 : Nat) : Int)) rfl)
  have HM4 : Hid (Mod (G.foot b) _ (W3.setCell ⟨b, 4, none⟩ (.int .i64 ((used - 1 : Nat) : Int)))) := HM3.out.setCell _ (fun _ => .inl rfl) _
  go_wp2_with fail
  go_ret
  exact ⟨rfl, ⟨G, used - 1, (i : Int), _, HR4.out, HAG.out, HF.out⟩, HM4.out.wide (fun k hk => HF.out k hk)⟩
end Go.Proofs.YtlooaipipmiijaaGreat
