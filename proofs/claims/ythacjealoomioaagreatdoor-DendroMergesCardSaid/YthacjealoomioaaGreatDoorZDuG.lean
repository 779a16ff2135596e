/- DuG. -/
import Derived.Test.YthacjealoomioaaGreatDoorZDuS
import Derived.Test.YthacjealoomioaaGreatDoorZGj
import Derived.Deep.RegionHeld3
/- dsu.Groups, graph.Components, graph.Row. (printed by ddg.py) -/
namespace Go.Proofs.YthacjealoomioaaGreatDoor
set_option linter.unusedVariables false
set_option linter.unusedSimpArgs false
open Go.RowKit

/-- A row of slices. -/
structure SRow (w : World) (a : Option Addr) (b R : Nat) : Prop where
  adr : 0 < R → a = some ⟨b, 0, none⟩
  cell : ∀ i, i < R → ∃ s l q, w.cell? ⟨b, i, none⟩ = some (.slice s l q)
theorem SRow.below {w w' : World} {a : Option Addr} {b R : Nat} (h : SRow w a b R) (hb : Below w.heap.size w w') : SRow w' a b R :=
  ⟨h.adr, fun i hi => by obtain ⟨s, l, q, e⟩ := h.cell i hi; exact ⟨s, l, q, (hb.cell (World.block_lt_of_cell? w _ e)).trans e⟩⟩
theorem SRow.of_owns {w : World} {T : TypeId} {v : Value} {R : Nat} {xs : List Value} (h : w.ownsRow 0 T 1 v R xs) (hs : ∀ x ∈ xs, ∃ s l q, x = .slice s l q) (hl : xs.length = R) : ∃ a c b, v = .slice a R c ∧ SRow w a b R := by
  by_cases hz : 0 < R
  · obtain ⟨g, cap, rfl, hcap, _, _, hc, _⟩ := owns_form h hz
    refine ⟨_, _, g, rfl, ⟨fun _ => rfl, fun i hi => ?_⟩⟩
    obtain ⟨s, l, q, e⟩ := hs (xs[i]'(by omega)) (List.getElem_mem _)
    exact ⟨s, l, q, by rw [hc i (by omega), List.getElem?_eq_getElem (by omega), e]⟩
  · obtain rfl : R = 0 := by omega
    rcases h.2 with ⟨rfl, _⟩ | ⟨g, cap, cur, rfl, _⟩
    · exact ⟨_, _, 0, rfl, ⟨fun h => by omega, fun i hi => by omega⟩⟩
    · exact ⟨_, _, 0, rfl, ⟨fun h => by omega, fun i hi => by omega⟩⟩

structure GrPost (w : World) (D : DB) (R : Nat) (e : Ending) (w' : World) : Prop where
  out : ∃ a c b, e = .returned (.slice a R c) ∧ SRow w' a b R
  mod : Mod D.mem w w'

/-- What stays when the parents change. -/
structure GrE (W : World) (D : DB) (n : Nat) (tb nb : Nat) (v : Value) (lst nx : List Nat) (R : Nat) (rows : List Value) : Prop where
  tbk : Blk W tb 3 (natV lst)
  nbk : Blk W nb 3 (natV nx)
  own : W.ownsRow 0 24 1 v R rows
theorem GrE.mod {F : Nat → Prop} {W W' : World} {D : DB} {n tb nb : Nat} {v : Value} {lst nx : List Nat} {R : Nat} {rows : List Value} (h : GrE W D n tb nb v lst nx R rows) (m : Mod F W W') (h1 : ¬ F tb) (h2 : ¬ F nb) (h3 : ∀ y, v.ownBlock = some y → ¬ F y) : GrE W' D n tb nb v lst nx R rows :=
  ⟨h.tbk.mod m h1, h.nbk.mod m h2, owns_mod h.own m h3⟩

set_option maxHeartbeats 16000000 in
set_option maxRecDepth 100000 in
theorem dgroups_ok (w : World) (D : DB) (n : Nat) (k : List Nat) (hd : DObjS w D n k) (ko : KOk n k) (hn : n ≤ 4096) :
    Calls Tryz.prog 104 #[.pointer (some ⟨D.s, 0, none⟩)] w (GrPost w D (roots n k)) := by
  obtain ⟨up, least, sz, cnt, h, H, hrep, hi, hl, hz⟩ := hd.ex
  have HKO := Lib.hid ko
  have HDLT : Hid (∀ x, D.mem x → x < w.heap.size) := fun x hx => hd.obj.lt hx
  have HRL : Hid (roots n k ≤ n) := by show _ ≤ _; rw [← rtN_end]; exact rtN_le k n
  obtain ⟨R, HR⟩ : ∃ R, Hid (roots n k = R) := ⟨_, rfl⟩
  have HCN : Hid (cnt = (R : Int)) := by show _ = _; rw [hz.cnt, HR.out]
  rw [HR.out] at HRL
  have hRn : R ≤ 4096 := by have := HRL.out; omega
  have c0 := hrep.sb.cell (i := 0) rfl
  have c1 := hrep.sb.cell (i := 1) rfl
  have HREP := Lib.hid hrep
  have HI := Lib.hid hi
  have HLD := Lib.hid hl
  have HSZ := Lib.hid hz
  rw [HR.out]
  clear hd hrep hi hl hz ko
  go_enter Tryz.func104, Tryz.ntmps104
  go_wp2_with fail
  with_reducible refine (dvalid_ok D.s w c0).mono ?_
  rintro e w' ⟨rfl, rfl⟩
  go_wp2_with (at_make; apply keepIt)
  apply Lib.hid
  refine wpList_makeB 3 (.int .i64 0) 8 Tryz.underlying24 Tryz.infoInt rfl _ _ _ _ n rfl rfl rfl rfl (by omega) (by unfold maxLen; omega) ?_
  intro w2 hB hb
  have HTB : Hid (Blk w2 w.heap.size 3 (natV (List.replicate n 0))) := by show Blk _ _ _ _; rw [natV_zero]; exact hB
  have HB2 := Lib.hid hb
  have HR2 : Hid (DRep w2 D n up least sz cnt) := HREP.out.mod (F := fun _ => False) (Mod.of_below hb) (fun _ _ h => h)
  have HS2 : Hid (w.heap.size < w2.heap.size) := HTB.out.lt
  clear hB hb c0 c1 HREP
  have c1 := HR2.out.sb.cell (i := 1) rfl
  go_wp2_with (at_make; apply keepIt)
  apply Lib.hid
  refine wpList_makeB 3 (.int .i64 0) 8 Tryz.underlying24 Tryz.infoInt rfl _ _ _ _ n rfl rfl rfl rfl (by omega) (by unfold maxLen; omega) ?_
  intro w3 hB hb
  have HNB : Hid (Blk w3 w2.heap.size 3 (natV (nxG n k 0))) := by show Blk _ _ _ _; rw [nxG_zero, natV_zero]; exact hB
  have HTB3 := Lib.hid (HTB.out.below hb HTB.out.lt)
  have HB3 := Lib.hid (bel_then HB2.out hb)
  have HR3 : Hid (DRep w3 D n up least sz cnt) := HR2.out.mod (F := fun _ => False) (Mod.of_below hb) (fun _ _ h => h)
  have HS3 : Hid (w2.heap.size < w3.heap.size) := HNB.out.lt
  clear hB hb c1 HTB HB2 HR2
  have c4 := HR3.out.sb.cell (i := 4) rfl
  rw [HCN.out] at c4
  obtain ⟨ii, hii, hi0, hi1, hi2⟩ := info_parts Tryz.infoSli
  go_wp2_with (at_make; apply keepIt)
  apply Lib.hid
  refine wpList_make_own w3 rfl _ _ 114 rfl 0 24 ii _ 1 Tryz.underlying114 hii hi0 hi1 .i64 .i64 _ R rfl rfl rfl (by rw [hi2]; omega) (by unfold maxLen; omega) (Nat.zero_le _) ?_
  intro w4 hown hgr
  have hb : Below w3.heap.size w3 w4 := ⟨hgr.os, hgr.tape, hgr.output, hgr.size, fun k hk => hgr.block k hk (by simp)⟩
  have HG0 : Hid (GrE w4 D n w.heap.size w2.heap.size (.slice (some ⟨w3.heap.size, 0, none⟩) 0 R) (List.replicate n 0) (nxG n k 0) (rtN k 0) []) := ⟨HTB3.out.below hb HTB3.out.lt, HNB.out.below hb HNB.out.lt, hown⟩
  have HR4 : Hid (DRep w4 D n up least sz cnt) := HR3.out.mod (F := fun _ => False) (Mod.of_below hb) (fun _ _ h => h)
  have HM4 : Hid (Mod (fun y => D.mem y ∨ w.heap.size ≤ y) w w4) := Mod.of_below (bel_then HB3.out hb)
  have HGS4 : Hid (w3.heap.size ≤ w4.heap.size) := hb.size
  clear hown hgr hb c4 HR3 HNB HTB3 HB3 hii hi0 hi1 hi2
  obtain ⟨tb, HTBE⟩ : ∃ x, Hid (w.heap.size = x) := ⟨_, rfl⟩
  obtain ⟨nb, HNBE⟩ : ∃ x, Hid (w2.heap.size = x) := ⟨_, rfl⟩
  obtain ⟨gb, HGBE⟩ : ∃ x, Hid (w3.heap.size = x) := ⟨_, rfl⟩
  have HOR : Hid (tb < nb ∧ nb < gb ∧ ∀ x, D.mem x → x < tb) := ⟨by rw [← HTBE.out, ← HNBE.out]; exact HS2.out, by rw [← HNBE.out, ← HGBE.out]; exact HS3.out, fun x hx => by rw [← HTBE.out]; exact HDLT.out x hx⟩
  simp only [HTBE.out, HNBE.out, HGBE.out] at HG0 HM4 HGS4 ⊢
  clear HS2 HS3 HDLT
  go_wp2_with fail
  go_loopw [5, 6, 32] (fun v s6 s wr => ∃ (i : Nat) (up' lst : List Nat) (rows : List Value), i ≤ n ∧ s = .int .i64 (i : Int) ∧ s6 = .int .i64 ((bas n k i : Nat) : Int) ∧ GrE wr D n tb nb v lst (nxG n k i) (rtN k i) rows ∧ lst.length = n ∧ rows.length = rtN k i ∧ Hid (∀ x ∈ rows, ∃ s l q, x = .slice s l q) ∧ Hid (∀ y, v.ownBlock = some y → gb ≤ y) ∧ DRep wr D n up' least sz cnt ∧ DInv n k up' h H ∧ LDInv n k up' least ∧ SzI n k up' sz cnt ∧ gb ≤ wr.heap.size ∧ Mod (fun y => D.mem y ∨ tb ≤ y) w wr) (fun _ _ s _ => n - (intOf s).toNat)
  case atStart => exact ⟨0, up, _, [], Nat.zero_le _, rfl, rfl, HG0.out, by simp, rfl, (fun x hx => by cases hx), (fun y hy => Nat.le_of_eq (by simpa [Value.ownBlock] using hy)), HR4.out, HI.out, HLD.out, HSZ.out, HGS4.out, HM4.out⟩
  case round =>
    obtain ⟨i, up', lst, rows, hin, rfl, rfl, hge, hll, hrl, HROWS, HVB, hrep, hinv, hldv, hszi, hgs, hmd⟩ := hrel
    clear HG0 HR4 HI HLD HSZ HM4 HGS4
    have HGS := Lib.hid hgs
    clear hgs
    have HGE := Lib.hid hge
    have HREP := Lib.hid hrep
    have HI := Lib.hid hinv
    have HLD := Lib.hid hldv
    have HSZ := Lib.hid hszi
    have HM := Lib.hid hmd
    have HLL := Lib.hid hll
    have HRLN := Lib.hid hrl
    clear hge hrep hinv hldv hszi hmd hll hrl
    by_cases hi : i < n
    · have t1 : (i : Int) < (n : Int) := by omega
      have t2 : (0 : Int) ≤ (i : Int) := by omega
      go_wp2_with fail
      with_reducible refine (droot_ok wr D n k up' least sz cnt h H HREP.out HI.out HLD.out (by omega) i hi).mono ?_
      rintro e w5 ⟨⟨r, up4, rfl, hr4, er4, kr4, hp4, hi4, hl4, hkp⟩, hm4⟩
      have HSZ5 := Lib.hid (HSZ.out.keep HI.out hi4 hkp)
      have HUB := Lib.hid (HOR.out.2.2 D.ub (.inr (.inl rfl)))
      have HGE5 := Lib.hid (HGE.out.mod hm4 (fun e => by have := HUB.out; omega) (fun e => by have := HUB.out; have := HOR.out.1; omega) (fun y hy e => by have := HUB.out; have := HVB.out y hy; have := HOR.out.1; have := HOR.out.2.1; omega))
      have HR5 := Lib.hid hp4
      have HI5 := Lib.hid hi4
      have HL5 := Lib.hid hl4
      have HM5 : Hid (Mod (fun y => D.mem y ∨ tb ≤ y) w w5) := HM.out.trans hm4 (fun x _ e => .inl (.inr (.inl e)))
      have HGS5 : Hid (gb ≤ w5.heap.size) := Nat.le_trans HGS.out hm4.size
      have HLV : Hid (least.getD r 0 = k.getD i 0) := (hl4.2 r hr4 er4).trans kr4
      have HZV : Hid (sz.getD r 0 = ((cls n k (k.getD i 0) : Nat) : Int)) := by show _ = _; rw [HSZ5.out.sz r hr4 er4, kr4]
      have HQL : Hid (k.getD i 0 ≤ i) := HKO.out.le i hi
      clear hp4 hi4 hl4 hkp hm4 er4 kr4 HGE HREP HI HLD HSZ HM HUB
      have c2 := HR5.out.sb.cell (i := 2) rfl
      have l1 := blkN HR5.out.lbk (i := r) (by rw [HL5.out.1]; exact hr4)
      rw [HLV.out] at l1
      have t3 : (r : Int) < (n : Int) := by omega
      have t4 : (0 : Int) ≤ (r : Int) := by omega
      have HBI : Hid (bas n k (i + 1) = bas n k i + if k.getD i 0 = i then cls n k i else 0) := rfl
      have HRI := Lib.hid (rtN_succ k i)
      have NT : Hid (tb ≠ nb) := fun e => by have := HOR.out.1; omega
      by_cases hq : k.getD i 0 = i
      · have HQ := Lib.hid hq
        rw [hq] at l1 HZV
        have t5 : ((i : Int) == (i : Int)) = true := by simp
        have n1 := blkN HGE5.out.nbk (i := i) (by rw [nxG_len]; exact hi)
        have f1 := HGE5.out.nbk.free i
        obtain ⟨B, HBB⟩ : ∃ B, Hid (bas n k i = B) := ⟨_, rfl⟩
        obtain ⟨C, HCC⟩ : ∃ C, Hid (cls n k i = C) := ⟨_, rfl⟩
        obtain ⟨E, HEE⟩ : ∃ E, Hid (B + C = E) := ⟨_, rfl⟩
        have hBC : B + C ≤ n ∧ 0 < C := ⟨by rw [← HBB.out, ← HCC.out]; exact bas_add HKO.out hi hq, by rw [← HCC.out]; exact cls_pos hi hq⟩
        rw [HCC.out] at HZV
        rw [HBB.out]
        generalize (nxG n k i).getD i 0 = old at *
        clear hq
        go_upto_region 14 with fail
        have HGE6 : Hid (GrE (w5.setCell ⟨nb, i, none⟩ (.int .i64 (B : Int))) D n tb nb u5 lst ((nxG n k i).set i B) (rtN k i) rows) := ⟨HGE5.out.tbk.other _ _ NT.out, blkN_set HGE5.out.nbk i B, owns_mod (F := fun y => y = nb) HGE5.out.own ((Mod.refl _ w5).setAt rfl) (fun y hy e => by have := HVB.out y hy; have := HOR.out.2.1; omega)⟩
        have HNM : Hid (Mod (fun y => y = nb) w5 (w5.setCell ⟨nb, i, none⟩ (.int .i64 (B : Int)))) := (Mod.refl _ w5).setAt rfl
        have HR6 := Lib.hid (HR5.out.mod HNM.out (fun x hx e => by have := HOR.out.2.2 x hx; have := HOR.out.1; omega))
        have HM6 : Hid (Mod (fun y => D.mem y ∨ tb ≤ y) w (w5.setCell ⟨nb, i, none⟩ (.int .i64 (B : Int)))) := HM5.out.trans HNM.out (fun x _ e => .inr (by have := HOR.out.1; omega))
        clear c2 l1 n1 f1 HGE5 HR5 HM5 HNM
        have HGS6 : Hid (gb ≤ (w5.setCell ⟨nb, i, none⟩ (.int .i64 (B : Int))).heap.size) := by show _ ≤ _; have := HGS5.out; simpa [World.setCell] using this
        generalize w5.setCell ⟨nb, i, none⟩ (.int .i64 (B : Int)) = w6 at *
        have c3 := HR6.out.sb.cell (i := 3) rfl
        have z1 := blkI HR6.out.zbk (i := r) (by rw [HR6.out.szl]; exact hr4)
        rw [HZV.out] at z1
        have eE : (B : Int) + (C : Int) = (E : Int) := by have := HEE.out; omega
        have wE : IntKind.i64.wrap (E : Int) = (E : Int) := IntWalk.i64_in _ (by have := HEE.out; omega)
        go_upto_region 15 with fail
        clear c3 z1 eE wE
        have n1 := blkN HGE6.out.nbk (i := i) (by rw [List.length_set, nxG_len]; exact hi)
        rw [getD_set_self (by rw [nxG_len]; exact hi)] at n1
        have y1 : (0 : Int) ≤ (B : Int) := by omega
        have y2 : (B : Int) ≤ (E : Int) := by have := HEE.out; omega
        have y3 : (E : Int) ≤ (n : Int) := by have := HEE.out; omega
        have y4 : (0 : Int) ≤ (E : Int) := by omega
        have y5 : ¬ E = B := by have := HEE.out; omega
        have y6 : ¬ (E : Int) = (B : Int) := by have := HEE.out; omega
        go_wp2_with (at_builtin; apply keepIt)
        apply Lib.hid
        have HOWN := Lib.hid (HGE6.out.own.alloc (.cells #[.slice (some ⟨tb, B, none⟩) (E - B) (E - B)] 24))
        have HNW := Lib.hid (news_new w6 24 [.slice (some ⟨tb, B, none⟩) (E - B) (E - B)])
        have hrt : rtN k i ≤ 4096 := by have := rtN_le k i; omega
        refine wpList_appendB 24 (.slice none 0 0) 1 24 Tryz.underlying114 Tryz.infoSli rfl (by decide) _ (rtN k i) rows rfl HOWN.out ⟨w6.heap.size, 0, none⟩ 1 1 [.slice (some ⟨tb, B, none⟩) (E - B) (E - B)] rfl rfl HNW.out (by simp [Value.oneCell']) (by unfold maxLen; omega) (by omega) ?_
        intro v' w7 a1 a2 a3
        have HNM : Hid (Mod (fun y => gb ≤ y) w6 w7) := ((Mod.refl (fun y => gb ≤ y) w6).alloc _).grown a2 (fun y hy _ => HVB y hy)
        have HGE7 : Hid (GrE w7 D n tb nb v' lst ((nxG n k i).set i B) (rtN k i + 1) (rows ++ [.slice (some ⟨tb, B, none⟩) (E - B) (E - B)])) := ⟨HGE6.out.tbk.mod HNM.out (by have := HOR.out.1; have := HOR.out.2.1; omega), HGE6.out.nbk.mod HNM.out (by have := HOR.out.2.1; omega), a1⟩
        have HR7 := Lib.hid (HR6.out.mod HNM.out (fun x hx e => by have := HOR.out.2.2 x hx; have := HOR.out.1; have := HOR.out.2.1; omega))
        have HM7 : Hid (Mod (fun y => D.mem y ∨ tb ≤ y) w w7) := HM6.out.trans HNM.out (fun x _ e => .inr (by have := HOR.out.1; have := HOR.out.2.1; omega))
        have HGS7 : Hid (gb ≤ w7.heap.size) := Nat.le_trans HGS6.out HNM.out.size
        have HVB2 : Hid (∀ y, v'.ownBlock = some y → gb ≤ y) := fun y hy => by
          rcases a3 y hy with e | e
          · exact HVB.out y e
          · have := HGS6.out
            have e2 : w6.heap.size + 1 ≤ y := by simpa using e
            omega
        have HROWS2 : Hid (∀ x ∈ rows ++ [Value.slice (some ⟨tb, B, none⟩) (E - B) (E - B)], ∃ s l q, x = .slice s l q) := fun x hx => by
          rcases List.mem_append.1 hx with hx | hx
          · exact HROWS.out x hx
          · rw [List.mem_singleton] at hx
            exact ⟨_, _, _, hx⟩
        have HRW : Hid ((rows ++ [Value.slice (some ⟨tb, B, none⟩) (E - B) (E - B)]).length = rtN k i + 1) := by show _ = _; rw [List.length_append, HRLN.out]; rfl
        have HRTE : Hid (rtN k (i + 1) = rtN k i + 1) := by show _ = _; rw [HRI.out, if_pos HQ.out]
        have HBN : Hid (bas n k (i + 1) = E) := by show _ = _; rw [HBI.out, if_pos HQ.out, HBB.out, HCC.out, HEE.out]
        have HXL : Hid (((nxG n k i).set i B).length = n) := by show _ = _; rw [List.length_set, nxG_len]
        have HXB : Hid (((nxG n k i).set i B).getD i 0 = B) := getD_set_self (by rw [nxG_len]; exact hi)
        have HXN : Hid (((nxG n k i).set i B).set i (B + 1) = nxG n k (i + 1)) := by
          have := nxG_root HKO.out hi HQ.out
          rw [HBB.out] at this
          exact this
        have hBn : B < n := by have := hBC; omega
        have hcn : i < n := hi
        clear a1 a2 a3 HNM HOWN HNW n1 y1 y2 y3 y4 y5 y6 HGE6 HR6 HM6 HGS6 HVB HROWS HRI HBI HZV HLV
        have n2 := blkN HGE7.out.nbk (i := i) (by rw [HXL.out]; exact hcn)
        rw [HXB.out] at n2
        have l2 := blkN HGE7.out.tbk (i := B) (by rw [HLL.out]; exact hBn)
        have f2 := HGE7.out.tbk.free B
        generalize lst.getD B 0 = old2 at *
        have x1 : (0 : Int) ≤ (B : Int) := by omega
        have x2 : (B : Int) < (n : Int) := by omega
        have x3 : (i : Int) < (n : Int) := by omega
        have x4 : (0 : Int) ≤ (i : Int) := by omega
        go_upto_region 17 with fail
        have HGE8 : Hid (GrE (w7.setCell ⟨tb, B, none⟩ (.int .i64 (i : Int))) D n tb nb v' (lst.set B i) ((nxG n k i).set i B) (rtN k i + 1) (rows ++ [.slice (some ⟨tb, B, none⟩) (E - B) (E - B)])) := ⟨blkN_set HGE7.out.tbk B i, HGE7.out.nbk.other _ _ (fun e => NT.out e.symm), owns_mod (F := fun y => y = tb) HGE7.out.own ((Mod.refl _ w7).setAt rfl) (fun y hy e => by have := HVB2.out y hy; have := HOR.out.1; have := HOR.out.2.1; omega)⟩
        have HNM : Hid (Mod (fun y => y = tb) w7 (w7.setCell ⟨tb, B, none⟩ (.int .i64 (i : Int)))) := (Mod.refl _ w7).setAt rfl
        have HR8 := Lib.hid (HR7.out.mod HNM.out (fun x hx e => by have := HOR.out.2.2 x hx; omega))
        have HM8 : Hid (Mod (fun y => D.mem y ∨ tb ≤ y) w (w7.setCell ⟨tb, B, none⟩ (.int .i64 (i : Int)))) := HM7.out.trans HNM.out (fun x _ e => .inr (by omega))
        have HGS8 : Hid (gb ≤ (w7.setCell ⟨tb, B, none⟩ (.int .i64 (i : Int))).heap.size) := by show _ ≤ _; have := HGS7.out; simpa [World.setCell] using this
        clear n2 l2 f2 HGE7 HR7 HM7 HNM HGS7
        generalize w7.setCell ⟨tb, B, none⟩ (.int .i64 (i : Int)) = w8 at *
        have n3 := blkN HGE8.out.nbk (i := i) (by rw [HXL.out]; exact hcn)
        rw [HXB.out] at n3
        have f3 := HGE8.out.nbk.free i
        obtain ⟨B1, HB1⟩ : ∃ B1, Hid (B + 1 = B1) := ⟨_, rfl⟩
        have eB : (B : Int) + 1 = (B1 : Int) := by have := HB1.out; omega
        have wB : IntKind.i64.wrap (B1 : Int) = (B1 : Int) := IntWalk.i64_in _ (by have := HB1.out; omega)
        have HGE9 : Hid (GrE (w8.setCell ⟨nb, i, none⟩ (.int .i64 (B1 : Int))) D n tb nb v' (lst.set B i) (nxG n k (i + 1)) (rtN k i + 1) (rows ++ [.slice (some ⟨tb, B, none⟩) (E - B) (E - B)])) := by
          refine ⟨HGE8.out.tbk.other _ _ NT.out, ?_, owns_mod (F := fun y => y = nb) HGE8.out.own ((Mod.refl _ w8).setAt rfl) (fun y hy e => by have := HVB2.out y hy; have := HOR.out.2.1; omega)⟩
          have := blkN_set HGE8.out.nbk i B1
          rw [← HB1.out, HXN.out, HB1.out] at this
          exact this
        have HNM : Hid (Mod (fun y => y = nb) w8 (w8.setCell ⟨nb, i, none⟩ (.int .i64 (B1 : Int)))) := (Mod.refl _ w8).setAt rfl
        have HR9 := Lib.hid (HR8.out.mod HNM.out (fun x hx e => by have := HOR.out.2.2 x hx; have := HOR.out.1; omega))
        have HM9 : Hid (Mod (fun y => D.mem y ∨ tb ≤ y) w (w8.setCell ⟨nb, i, none⟩ (.int .i64 (B1 : Int)))) := HM8.out.trans HNM.out (fun x _ e => .inr (by have := HOR.out.1; omega))
        have HGS9 : Hid (gb ≤ (w8.setCell ⟨nb, i, none⟩ (.int .i64 (B1 : Int))).heap.size) := by show _ ≤ _; have := HGS8.out; simpa [World.setCell] using this
        clear HGE8 HR8 HM8 HNM HGS8
        go_wp2_with fail
        clear n3 f3 eB wB
        go_roundw
        case rel => exact ⟨i + 1, up4, lst.set B i, rows ++ [.slice (some ⟨tb, B, none⟩) (E - B) (E - B)], by omega, by go_num, by rw [HBN.out], HRTE.out ▸ HGE9.out, by rw [List.length_set]; exact HLL.out, by rw [HRTE.out]; exact HRW.out, HROWS2, HVB2, HR9.out, HI5.out, HL5.out, HSZ5.out, HGS9.out, HM9.out⟩
        case measure => simp [intOf]; omega
      · obtain ⟨c, HC⟩ : ∃ c, Hid (k.getD i 0 = c) := ⟨_, rfl⟩
        have hci : c < i := by have := HQL.out; rw [HC.out] at this hq; omega
        have HNE := Lib.hid hq
        rw [HC.out] at l1
        have t5 : ((c : Int) == (i : Int)) = false := by rw [beq_eq_false_iff_ne]; omega
        have t5' : (c == i) = false := by rw [beq_eq_false_iff_ne]; omega
        obtain ⟨B, HBB⟩ : ∃ B, Hid (nxV n k i c = B) := ⟨_, rfl⟩
        have hBn : B < n := by
          have := nxV_lt HKO.out hi hq
          rw [HC.out, HBB.out] at this
          exact this
        have hcn : c < n := by omega
        have HXL : Hid ((nxG n k i).length = n) := nxG_len n k i
        have HXB : Hid ((nxG n k i).getD c 0 = B) := by show _ = _; rw [nxG_at hcn, HBB.out]
        have HXN : Hid ((nxG n k i).set c (B + 1) = nxG n k (i + 1)) := by
          have := nxG_step HKO.out hi hq
          rw [HC.out, HBB.out] at this
          exact this
        have HRTE : Hid (rtN k (i + 1) = rtN k i) := by show _ = _; rw [HRI.out, if_neg hq, Nat.add_zero]
        have HBN : Hid (bas n k (i + 1) = bas n k i) := by show _ = _; rw [HBI.out, if_neg hq, Nat.add_zero]
        have HVB2 := HVB
        have HROWS2 := HROWS
        have HRW := HRLN
        clear hq HRI HBI HZV HLV HVB HROWS
        go_upto_region 16 with fail
        clear c2 l1 t5 t5'
        have n2 := blkN HGE5.out.nbk (i := c) (by rw [HXL.out]; exact hcn)
        rw [HXB.out] at n2
        have l2 := blkN HGE5.out.tbk (i := B) (by rw [HLL.out]; exact hBn)
        have f2 := HGE5.out.tbk.free B
        generalize lst.getD B 0 = old2 at *
        have x1 : (0 : Int) ≤ (B : Int) := by omega
        have x2 : (B : Int) < (n : Int) := by omega
        have x3 : (c : Int) < (n : Int) := by omega
        have x4 : (0 : Int) ≤ (c : Int) := by omega
        go_upto_region 17 with fail
        have HGE6 : Hid (GrE (w5.setCell ⟨tb, B, none⟩ (.int .i64 (i : Int))) D n tb nb u5 (lst.set B i) (nxG n k i) (rtN k i) rows) := ⟨blkN_set HGE5.out.tbk B i, HGE5.out.nbk.other _ _ (fun e => NT.out e.symm), owns_mod (F := fun y => y = tb) HGE5.out.own ((Mod.refl _ w5).setAt rfl) (fun y hy e => by have := HVB2.out y hy; have := HOR.out.1; have := HOR.out.2.1; omega)⟩
        have HNM : Hid (Mod (fun y => y = tb) w5 (w5.setCell ⟨tb, B, none⟩ (.int .i64 (i : Int)))) := (Mod.refl _ w5).setAt rfl
        have HR6 := Lib.hid (HR5.out.mod HNM.out (fun x hx e => by have := HOR.out.2.2 x hx; omega))
        have HM6 : Hid (Mod (fun y => D.mem y ∨ tb ≤ y) w (w5.setCell ⟨tb, B, none⟩ (.int .i64 (i : Int)))) := HM5.out.trans HNM.out (fun x _ e => .inr (by omega))
        have HGS6 : Hid (gb ≤ (w5.setCell ⟨tb, B, none⟩ (.int .i64 (i : Int))).heap.size) := by show _ ≤ _; have := HGS5.out; simpa [World.setCell] using this
        clear n2 l2 f2 HGE5 HR5 HM5 HNM HGS5
        generalize w5.setCell ⟨tb, B, none⟩ (.int .i64 (i : Int)) = w6 at *
        have n3 := blkN HGE6.out.nbk (i := c) (by rw [HXL.out]; exact hcn)
        rw [HXB.out] at n3
        have f3 := HGE6.out.nbk.free c
        obtain ⟨B1, HB1⟩ : ∃ B1, Hid (B + 1 = B1) := ⟨_, rfl⟩
        have eB : (B : Int) + 1 = (B1 : Int) := by have := HB1.out; omega
        have wB : IntKind.i64.wrap (B1 : Int) = (B1 : Int) := IntWalk.i64_in _ (by have := HB1.out; omega)
        have HGE7 : Hid (GrE (w6.setCell ⟨nb, c, none⟩ (.int .i64 (B1 : Int))) D n tb nb u5 (lst.set B i) (nxG n k (i + 1)) (rtN k i) rows) := by
          refine ⟨HGE6.out.tbk.other _ _ NT.out, ?_, owns_mod (F := fun y => y = nb) HGE6.out.own ((Mod.refl _ w6).setAt rfl) (fun y hy e => by have := HVB2.out y hy; have := HOR.out.2.1; omega)⟩
          have := blkN_set HGE6.out.nbk c B1
          rw [← HB1.out, HXN.out, HB1.out] at this
          exact this
        have HNM : Hid (Mod (fun y => y = nb) w6 (w6.setCell ⟨nb, c, none⟩ (.int .i64 (B1 : Int)))) := (Mod.refl _ w6).setAt rfl
        have HR7 := Lib.hid (HR6.out.mod HNM.out (fun x hx e => by have := HOR.out.2.2 x hx; have := HOR.out.1; omega))
        have HM7 : Hid (Mod (fun y => D.mem y ∨ tb ≤ y) w (w6.setCell ⟨nb, c, none⟩ (.int .i64 (B1 : Int)))) := HM6.out.trans HNM.out (fun x _ e => .inr (by have := HOR.out.1; omega))
        have HGS7 : Hid (gb ≤ (w6.setCell ⟨nb, c, none⟩ (.int .i64 (B1 : Int))).heap.size) := by show _ ≤ _; have := HGS6.out; simpa [World.setCell] using this
        clear HGE6 HR6 HM6 HNM HGS6
        go_wp2_with fail
        clear n3 f3 eB wB
        go_roundw
        case rel => exact ⟨i + 1, up4, lst.set B i, rows, by omega, by go_num, by rw [HBN.out], HRTE.out ▸ HGE7.out, by rw [List.length_set]; exact HLL.out, by rw [HRTE.out]; exact HRW.out, HROWS2, HVB2, HR7.out, HI5.out, HL5.out, HSZ5.out, HGS7.out, HM7.out⟩
        case measure => simp [intOf]; omega
    · obtain rfl : i = n := by omega
      have t1 : ¬ (i : Int) < (i : Int) := by omega
      have HSR := SRow.of_owns HGE.out.own HROWS.out HRLN.out
      rw [rtN_end, HR.out] at HSR
      obtain ⟨a, c, b, rfl, hsr⟩ := HSR
      have HS := Lib.hid hsr
      clear hsr
      go_wp2_with fail
      go_ret
      exact ⟨⟨a, c, b, rfl, HS.out⟩, HM.out.mono (fun x hx q => q.elim id (fun e => by rw [← HTBE.out] at e; omega))⟩

structure CoPost (w : World) (R : Nat) (e : Ending) (w' : World) : Prop where
  out : ∃ a c b, e = .returned (.slice a R c) ∧ SRow w' a b R
  bel : Below w.heap.size w w'

set_option maxHeartbeats 4000000 in
set_option maxRecDepth 100000 in
theorem gcomps_ok (w : World) (g n : Nat) (l : List Ed) (ho : GObj w g n l) (hg : GOk n l) :
    Calls Tryz.prog 66 #[.pointer (some ⟨g, 0, none⟩)] w (CoPost w (roots n (parK n l l.length))) := by
  have hn := hg.hn
  have HKO : Hid (KOk n (parK n l l.length)) := (parK_all hg).kok
  go_enter Tryz.func66, Tryz.ntmps66
  go_wp2_with fail
  with_reducible refine (partsS_ok w g n l ho hg).mono ?_
  rintro e w2 ⟨⟨D, rfl, hd, hdn⟩, hb⟩
  have HDN := Lib.hid hdn
  have HB := Lib.hid hb
  have HD := Lib.hid hd
  clear hd hdn hb
  go_wp2_with fail
  with_reducible refine (dgroups_ok w2 D n _ HD.out HKO.out hn).mono ?_
  rintro e w3 ⟨⟨a, c, b, rfl, hs⟩, hm⟩
  have HS := Lib.hid hs
  have HF := Lib.hid (bel_mod HB.out hm (fun x hx => HDN.out x hx))
  clear hs hm
  go_wp2_with fail
  go_ret
  exact ⟨⟨a, c, b, rfl, HS.out⟩, HF.out⟩

structure RwPost (w : World) (R : Nat) (e : Ending) (w' : World) : Prop where
  out : ∃ x z : Int, e = .returned (.agg #[.int .i64 x, .int .i64 (R : Int), .int .i64 z])
  bel : Below w.heap.size w w'
theorem SRow.mod {F : Nat → Prop} {w w' : World} {a : Option Addr} {b R : Nat} (h : SRow w a b R) (hm : Mod F w w') (hF : 0 < R → ¬ F b) : SRow w' a b R :=
  ⟨h.adr, fun i hi => by obtain ⟨s, l, q, e⟩ := h.cell i hi; exact ⟨s, l, q, (hm.cell (p := ⟨b, i, none⟩) (World.block_lt_of_cell? w _ e) (hF (by omega))).trans e⟩⟩

set_option maxHeartbeats 8000000 in
set_option maxRecDepth 100000 in
theorem grow_ok (w : World) (g n : Nat) (l : List Ed) (ho : GObj w g n l) (hg : GOk n l) :
    Calls Tryz.prog 31 #[.pointer (some ⟨g, 0, none⟩)] w (RwPost w (roots n (parK n l l.length))) := by
  have hRn : roots n (parK n l l.length) ≤ 4096 := by
    have := rtN_le (parK n l l.length) n
    rw [rtN_end] at this
    have := hg.hn
    omega
  obtain ⟨R, HR⟩ : ∃ R, Hid (roots n (parK n l l.length) = R) := ⟨_, rfl⟩
  rw [HR.out] at hRn ⊢
  have hb := (bel_alloc w (.cells #[.int .i64 0, .int .i64 0, .int .i64 0] 67)).alloc (by simp) (.cells #[.int .i64 0, .int .i64 0, .int .i64 0] 67)
  have HX : Hid (Blk ((w.alloc (.cells #[.int .i64 0, .int .i64 0, .int .i64 0] 67)).alloc (.cells #[.int .i64 0, .int .i64 0, .int .i64 0] 67)) w.heap.size 67 [.int .i64 0, .int .i64 0, .int .i64 0]) := (Blk.new w 67 [.int .i64 0, .int .i64 0, .int .i64 0]).alloc _
  have HY : Hid (Blk ((w.alloc (.cells #[.int .i64 0, .int .i64 0, .int .i64 0] 67)).alloc (.cells #[.int .i64 0, .int .i64 0, .int .i64 0] 67)) (w.heap.size + 1) 67 [.int .i64 0, .int .i64 0, .int .i64 0]) := Blk.new' (w.alloc (.cells #[.int .i64 0, .int .i64 0, .int .i64 0] 67)) 67 [.int .i64 0, .int .i64 0, .int .i64 0] (by simp)
  have HB := Lib.hid hb
  have HO := Lib.hid (ho.below hb)
  have HG := Lib.hid hg
  clear hb ho hg
  go_enter Tryz.func31, Tryz.ntmps31
  go_wp2_with fail
  obtain ⟨xb, HXB⟩ : ∃ x, Hid (w.heap.size = x) := ⟨_, rfl⟩
  obtain ⟨yb, HYB⟩ : ∃ y, Hid (w.heap.size + 1 = y) := ⟨_, rfl⟩
  have HXY : Hid (xb < yb) := by show _ < _; rw [← HXB.out, ← HYB.out]; omega
  simp only [HYB.out] at HY ⊢
  simp only [HXB.out] at HX HB ⊢
  generalize ((w.alloc (.cells #[.int .i64 0, .int .i64 0, .int .i64 0] 67)).alloc (.cells #[.int .i64 0, .int .i64 0, .int .i64 0] 67)) = W at *
  have hcon := gcomps_ok W g n l HO.out HG.out
  rw [HR.out] at hcon
  with_reducible refine hcon.mono ?_
  rintro e w2 ⟨⟨a, c, b, rfl, hs⟩, hb⟩
  have HS := Lib.hid hs
  have HX2 := Lib.hid (HX.out.below hb HX.out.lt)
  have HY2 := Lib.hid (HY.out.below hb HY.out.lt)
  have HB2 : Hid (Below xb w w2) := HB.out.trans (hb.mono (Nat.le_of_lt HX.out.lt))
  clear hs hb hcon HX HY HB
  go_wp2_with fail
  go_loopw [9] (fun s wr => ∃ (i : Nat) (x z : Int), i ≤ R ∧ s = .int .i64 (i : Int) ∧ Blk wr yb 67 [.int .i64 x, .int .i64 (i : Int), .int .i64 z] ∧ Blk wr xb 67 [.int .i64 0, .int .i64 0, .int .i64 0] ∧ SRow wr a b R ∧ Below xb w wr) (fun s _ => R - (intOf s).toNat)
  case atStart => exact ⟨0, 0, 0, Nat.zero_le _, rfl, HY2.out, HX2.out, HS.out, HB2.out⟩
  case round =>
    obtain ⟨i, x, z, hi, rfl, hy, hx, hs, hb⟩ := hrel
    clear HY2 HX2 HS HB2
    have HY := Lib.hid hy
    have HX := Lib.hid hx
    have HS := Lib.hid hs
    have HB := Lib.hid hb
    clear hy hx hs hb
    by_cases hiR : i < R
    · obtain ⟨so, sl, sq, e1⟩ := HS.out.cell i hiR
      obtain rfl := HS.out.adr (by omega)
      have y0 := HY.out.cell (i := 0) rfl
      have y1 := HY.out.cell (i := 1) rfl
      have y2 := HY.out.cell (i := 2) rfl
      have f0 := HY.out.free 0
      have f1 := HY.out.free 1
      have f2 := HY.out.free 2
      have hmx := run_maxI x (sl : Int)
      obtain ⟨mx, HMX⟩ : ∃ mx, Hid (max x (sl : Int) = mx) := ⟨_, rfl⟩
      rw [HMX.out] at hmx
      have HBY : Hid (b ≠ yb) := fun e => by
        obtain ⟨so0, sl0, sq0, e0⟩ := HS.out.cell 0 (by omega)
        rw [e] at e0
        rw [y0] at e0
        cases e0
      obtain ⟨i1, HI1⟩ : ∃ i1, Hid (i + 1 = i1) := ⟨_, rfl⟩
      have ei : (i : Int) + 1 = (i1 : Int) := by have := HI1.out; omega
      have wi : IntKind.i64.wrap (i1 : Int) = (i1 : Int) := IntWalk.i64_in _ (by have := HI1.out; omega)
      have t1 : (i : Int) < (R : Int) := by omega
      have t2 : (0 : Int) ≤ (i : Int) := by omega
      go_wp2_with fail
      go_roundw
      case rel =>
        have hm : ∀ v0 v1 v2 : Value, Mod (fun q => q = yb) wr (((wr.setCell ⟨yb, 0, none⟩ v0).setCell ⟨yb, 1, none⟩ v1).setCell ⟨yb, 2, none⟩ v2) := fun v0 v1 v2 => (((Mod.refl (fun q => q = yb) wr).setAt rfl).setAt rfl).setAt rfl
        refine ⟨i1, mx, _, by have := HI1.out; omega, rfl, ((HY.out.set 0 (.int .i64 mx)).set 1 (.int .i64 (i1 : Int))).set 2 _, HX.out.mod (hm _ _ _) (fun e => by have := HXY.out; omega), HS.out.mod (hm _ _ _) (fun _ => HBY.out), HB.out.trans ((hm _ _ _).below (Nat.le_of_lt HX.out.lt) (fun q e => by have := HXY.out; omega))⟩
      case measure => simp [intOf]; have := HI1.out; omega
    · obtain rfl : i = R := by omega
      have t1 : ¬ (i : Int) < (i : Int) := by omega
      have y0 := HY.out.cell (i := 0) rfl
      have y1 := HY.out.cell (i := 1) rfl
      have y2 := HY.out.cell (i := 2) rfl
      go_wp2_with (with_reducible refine wpList_storeBlk xb 67 [.int .i64 0, .int .i64 0, .int .i64 0] [.int .i64 x, .int .i64 (i : Int), .int .i64 z] rfl rfl HX.out rfl (by kernel_rfl) (by simp [Value.oneCell']) ?_)
      intro wz hbz hmz
      have HF : Hid (Below xb w wz) := HB.out.trans (hmz.below (Nat.le_of_lt HX.out.lt) (fun q e => Nat.le_of_eq e.symm))
      clear y0 y1 y2
      have d0 := hbz.cell (i := 0) rfl
      have d1 := hbz.cell (i := 1) rfl
      have d2 := hbz.cell (i := 2) rfl
      clear hbz hmz
      go_wp2_with fail
      refine bodyPost_ret (v := .agg #[.int .i64 x, .int .i64 (i : Int), .int .i64 z]) (by simp [results, Tryz.results31, go_sem, d0, d1, d2]) rfl ?_
      exact ⟨⟨x, z, rfl⟩, by have := HF.out; rw [← HXB.out] at this; exact this⟩

end Go.Proofs.YthacjealoomioaaGreatDoor
