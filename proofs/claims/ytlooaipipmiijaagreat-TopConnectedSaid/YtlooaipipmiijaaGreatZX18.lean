/- Several texts in one: ArF, ArG, ArH, InI, MapK. -/
import Derived.Test.YtlooaipipmiijaaGreatZX01
import Derived.Test.YtlooaipipmiijaaGreatZX13
import Derived.Test.YtlooaipipmiijaaGreatZX17
import Derived.OwnWalk
import Derived.Deep.RegionHeld3
import Derived.Maps.OwnSet
import Derived.Maps.RangeWalk
namespace Go.Proofs.YtlooaipipmiijaaGreat
set_option linter.unusedVariables false
set_option linter.unusedSimpArgs false
open Go.RowKit
def lvL (R : Nat → SlR) (k : Nat) : List Nat := (List.range k).filter fun i => decide ((R i).st = 1)
theorem lvL_yes {R : Nat → SlR} {k : Nat} (h : (R k).st = 1) : lvL R (k + 1) = lvL R k ++ [k] := by
  unfold lvL; rw [List.range_succ, List.filter_append]; simp [h]
theorem lvL_no {R : Nat → SlR} {k : Nat} (h : (R k).st ≠ 1) : lvL R (k + 1) = lvL R k := by
  unfold lvL; rw [List.range_succ, List.filter_append]; simp [h]
theorem lvL_len (R : Nat → SlR) (k : Nat) : (lvL R k).length ≤ k := by
  unfold lvL; exact Nat.le_trans (List.length_filter_le _ _) (by rw [List.length_range]; exact Nat.le_refl _)
theorem lvL_mem {S beg used : Nat} {last : Int} {R : Nat → SlR} {Lv : Nat → Prop} (h : ArP S beg used last R Lv) (x : Nat) : x ∈ lvL R beg ↔ Lv x := by
  rw [h.lv x]; unfold lvL; rw [List.mem_filter, List.mem_range, decide_eq_true_eq]
theorem lvL_sorted (R : Nat → SlR) (k : Nat) : (lvL R k).Pairwise (· < ·) := List.Pairwise.filter _ List.pairwise_lt_range
end Go.Proofs.YtlooaipipmiijaaGreat

namespace Go.Proofs.YtlooaipipmiijaaGreat
set_option linter.unusedVariables false
set_option linter.unusedSimpArgs false
open Go.RowKit
def natV64 (l : List Nat) : List Value := l.map fun (x : Nat) => .int .i64 (x : Int)
structure ArLs (w : World) (Lv : Nat → Prop) (e : Ending) (w' : World) : Prop where
  ex : ∃ v l, e = .returned v ∧ (∀ x, x ∈ l ↔ Lv x) ∧ l.Pairwise (· < ·) ∧ l.length ≤ 65536 ∧ w'.ownsRow 0 3 1 v l.length (natV64 l) ∧ ∀ q, v.ownBlock = some q → w.heap.size ≤ q
  bel : Below w.heap.size w w'
theorem Tryz.infoIntA : (Tryz.prog.info? 3).map (fun i => (i.zero, i.size, i.bytes)) = some (some (.int .i64 0), 1, 8) := by kernel_rfl
set_option maxHeartbeats 4000000 in
set_option maxRecDepth 100000 in
theorem ar_list (w : World) (b S beg : Nat) (Lv F : Nat → Prop) (h : ArO w b S beg Lv F) : Calls Tryz.prog 114 #[.pointer (some ⟨b, 0, none⟩)] w (ArLs w Lv) := by
  obtain ⟨G, used, last, R, hr, hp, hf⟩ := h
  have HV := Lib.hid (ar_valid b w hr.c0)
  have HR := Lib.hid hr
  have HP := Lib.hid hp
  have hbg : beg ≤ 65536 := by have := hp.bg; have := hp.ss; omega
  have hus : used ≤ 65536 := by have := hp.us; have := cntP_le (P := Lv) S; have := hp.ss; omega
  have c3 := hr.c3
  have c4 := hr.c4
  obtain ⟨ii, hii, hi0, hi1, hi2⟩ := info_parts Tryz.infoIntA
  clear hr hp hf
  go_enter Tryz.func114, Tryz.ntmps114
  go_wp2_with (first | (go_at_call 99; refine HV.out.mono ?_; rintro e w' ⟨rfl, rfl⟩) | (at_make; refine wpList_make_own w rfl _ _ 58 rfl 0 3 ii _ 1 Tryz.underlying58 hii hi0 hi1 .i64 .i64 _ used rfl rfl rfl (by rw [hi2]; omega) (by unfold maxLen; omega) (Nat.zero_le _) ?_))
  intro w1 ho hg
  have HB1 : Hid (Below w.heap.size w w1) := ⟨hg.os, hg.tape, hg.output, hg.size, fun k hk => hg.block k hk (by simp)⟩
  have HR1 := Lib.hid (HR.out.below HB1.out)
  have HO := Lib.hid ho
  have d3 := HR1.out.c3
  clear ho hg c3 c4
  go_wp2_with fail
  go_loopw [3, 17] (fun s3 s17 wr => ∃ k : Nat, k ≤ beg ∧ s17 = .int .i64 (k : Int) ∧ wr.ownsRow 0 3 1 s3 (lvL R k).length (natV64 (lvL R k)) ∧ (∀ q, s3.ownBlock = some q → w.heap.size ≤ q) ∧ Below w.heap.size w wr) (fun _ s17 _ => beg - (intOf s17).toNat)
  case atStart => exact ⟨0, Nat.zero_le _, rfl, HO.out, fun q e => (by have e2 : some w.heap.size = some q := e; injection e2 with e2; omega), HB1.out⟩
  case round =>
    obtain ⟨k, hk, rfl, hor, hnw, hbr⟩ := hrel
    clear HO HB1 HR1 d3
    have HRR := Lib.hid (HR.out.below hbr)
    have HBR := Lib.hid hbr
    have hlen := lvL_len R k
    obtain ⟨ao, cap, rfl⟩ := owns_slice hor
    have HOR := Lib.hid hor
    have HNW := Lib.hid hnw
    clear hor hbr hnw
    by_cases hkb : k < beg
    · have t1 : decide ((k : Int) < (beg : Int)) = true := decide_eq_true (by omega)
      have t2 : decide (k < beg) = true := decide_eq_true hkb
      have hwk : IntKind.i64.wrap ((k : Int) + 1) = (k : Int) + 1 := IntWalk.i64_in _ (by omega)
      have hS := ar_state wr b G S beg used last R HRR.out hbg k
      rw [if_pos hkb] at hS
      have HS := Lib.hid hS
      have HKB := Lib.hid hkb
      clear hS hkb
      by_cases hst : (R k).st = 1
      · have t3 : ((R k).st == 1) = true := by rw [hst]; rfl
        have t4 : decide ((R k).st = 1) = true := decide_eq_true hst
        have HL := Lib.hid (lvL_yes hst)
        generalize (R k).st = st at *
        clear hst
        have HOA : Hid ((wr.alloc (.cells #[.int .i64 (k : Int)] 3)).ownsRow 0 3 1 (.slice ao (lvL R k).length cap) (lvL R k).length (natV64 (lvL R k))) := HOR.out.alloc (.cells #[.int .i64 (k : Int)] 3)
        have HNS := Lib.hid (news_new wr 3 [.int .i64 (k : Int)])
        have HLE : Hid ((lvL R (k + 1)).length = (lvL R k).length + 1 ∧ natV64 (lvL R (k + 1)) = natV64 (lvL R k) ++ [.int .i64 (k : Int)]) := by
          rw [HL.out]; exact ⟨by simp, by unfold natV64; rw [List.map_append]; rfl⟩
        clear HL
        generalize (lvL R k).length = ln at *
        generalize natV64 (lvL R k) = nv at *
        go_wp2_with (first | (go_at_call 100; refine HS.out.mono ?_; rintro e w2 ⟨rfl, rfl⟩) | (at_builtin; with_reducible refine wpList_appendB 3 (.int .i64 0) 1 8 Tryz.underlying58 Tryz.infoIntA rfl (by decide) (.slice ao ln cap) ln nv rfl HOA.out ⟨wr.heap.size, 0, none⟩ 1 1 [.int .i64 (k : Int)] rfl rfl HNS.out (by simp [Value.oneCell']) (by unfold maxLen; omega) (by omega) ?_))
        intro v' w3 ho hg hk
        have hbs := HBR.out.size
        have HB3 : Hid (Below w.heap.size w w3) := by
          have hb1 : Below w.heap.size w (wr.alloc (.cells #[.int .i64 (k : Int)] 3)) := HBR.out.alloc hbs _
          exact hb1.trans (((Mod.refl (fun x => some x = (Value.slice ao ln cap).ownBlock) _).grown hg (fun x e _ => e.symm)).below hb1.size (fun x e => HNW.out x e.symm))
        have HN3 : Hid (∀ q, v'.ownBlock = some q → w.heap.size ≤ q) := fun q e => by
          rcases hk q e with c | c
          · exact HNW.out q c
          · have : (wr.alloc (.cells #[.int .i64 (k : Int)] 3)).heap.size = wr.heap.size + 1 := by simp
            omega
        have HO3 := Lib.hid ho
        obtain ⟨ao3, cap3, rfl⟩ := owns_slice ho
        clear ho hg hk HOA HNS
        go_wp2_with fail
        go_roundw
        case rel => exact ⟨k + 1, HKB.out, by go_num, by rw [HLE.out.1, HLE.out.2]; exact HO3.out, HN3.out, HB3.out⟩
        case measure => have := HKB.out; simp [intOf]; omega
      · have t3 : ((R k).st == 1) = false := by rw [beq_eq_false_iff_ne]; exact hst
        have t4 : decide ((R k).st = 1) = false := decide_eq_false hst
        have HL := Lib.hid (lvL_no hst)
        generalize (R k).st = st at *
        go_wp2_with (go_at_call 100; refine HS.out.mono ?_; rintro e w' ⟨rfl, rfl⟩)
        go_roundw
        case rel => exact ⟨k + 1, HKB.out, by go_num, by rw [HL.out]; exact ⟨HOR.out, HNW.out, HBR.out⟩⟩
        case measure => have := HKB.out; simp [intOf]; omega
    · obtain rfl : k = beg := by omega
      have t1 : decide ((k : Int) < (k : Int)) = false := decide_eq_false (by omega)
      go_wp2_with fail
      go_ret
      exact ⟨⟨_, _, rfl, fun x => lvL_mem HP.out x, lvL_sorted R k, by omega, HOR.out, HNW.out⟩, HBR.out⟩
end Go.Proofs.YtlooaipipmiijaaGreat

namespace Go.Proofs.YtlooaipipmiijaaGreat
set_option linter.unusedVariables false
set_option linter.unusedSimpArgs false
open Go.RowKit
structure ACp (w : World) (c : Nat) (S beg used : Nat) (last : Int) (R : Nat → SlR) (j : Nat) (v : Value) (pl : Nat → Nat) (W : World) : Prop where
  box : Blk W c 161 [.pointer (some ⟨c, 0, none⟩), v, .int .i64 (S : Int), .int .i64 (beg : Int), .int .i64 (used : Int), .int .i64 last]
  row : W.ownsRow 0 175 1 v j (pRow j pl)
  pg : ∀ i, i < j → Blk W (pl i) 177 (pgCells R i)
  bel : Below w.heap.size w W
  nc : w.heap.size ≤ c
  nv : ∀ k, v.ownBlock = some k → w.heap.size ≤ k ∧ k ≠ c
  np : ∀ i, i < j → w.heap.size ≤ pl i ∧ pl i ≠ c ∧ v.ownBlock ≠ some (pl i)
  d3 : ∀ i i', i < j → i' < j → pl i = pl i' → i = i'
theorem pgCells_one (R : Nat → SlR) (j : Nat) : ∀ v ∈ pgCells R j, v.oneCell' = true := by
  intro v hv
  unfold pgCells at hv
  obtain ⟨q, _, rfl⟩ := List.mem_map.1 hv
  show (slc (R (64 * j + q / 3)) (q % 3)).oneCell' = true
  generalize q % 3 = m
  match m with
  | 0 => rfl
  | 1 => rfl
  | m + 2 => rfl
theorem ACp.step {w W W2 W3 : World} {c S beg used j q : Nat} {last : Int} {R : Nat → SlR} {v v' : Value} {pl : Nat → Nat} (h : ACp w c S beg used last R j v pl W) (o : Obj) (hb : Below W.heap.size W W2) (B : Blk W2 q 177 (pgCells R j)) (hq : W.heap.size ≤ q)
    (ho : W3.ownsRow 0 175 1 v' (j + 1) (pRow j pl ++ [.pointer (some ⟨q, 0, none⟩)])) (hg : (W2.alloc o).grownBy W3 v.ownBlock) (hk : ∀ k, v'.ownBlock = some k → v.ownBlock = some k ∨ (W2.alloc o).heap.size ≤ k) :
    Blk W3 c 161 [.pointer (some ⟨c, 0, none⟩), v, .int .i64 (S : Int), .int .i64 (beg : Int), .int .i64 (used : Int), .int .i64 last] ∧
    ACp w c S beg used last R (j + 1) v' (fun i => if i = j then q else pl i) (W3.setCell ⟨c, 1, none⟩ v') := by
  have hs := hb.size
  have h1 : Below W.heap.size W (W2.alloc o) := hb.alloc hs o
  have hm := (Mod.of_below (F := fun k => v.ownBlock = some k) h1).grown hg (fun k e _ => e)
  have hm2 := (Mod.refl (fun k => v.ownBlock = some k) (W2.alloc o)).grown hg (fun k e _ => e)
  have hcl := h.box.lt
  have hql := B.lt
  have hsz : (W2.alloc o).heap.size = W2.heap.size + 1 := by simp
  have hcv : v.ownBlock ≠ some c := fun e => (h.nv c e).2 rfl
  have box3 := h.box.mod hm hcv
  have hvc : v'.ownBlock ≠ some c := fun e => by
    rcases hk _ e with d | d
    · exact hcv d
    · omega
  have m := (Mod.refl (fun x => x = c) W3).setCell ⟨c, 1, none⟩ (fun _ => rfl) v'
  have plt : ∀ i, i < j → pl i < W.heap.size := fun i hi => (h.pg i hi).lt
  have hvq : v.ownBlock ≠ some q := fun e => by have := (h.row.lt q e).2; omega
  have hws := h.bel.size
  refine ⟨box3, ⟨box3.set 1 v', ?_, fun i hi => ?_, ?_, h.nc, fun k e => ?_, fun i hi => ?_, fun i i' hi hi' e => ?_⟩⟩
  · rw [pRow_snoc] at ho
    exact owns_modL ho m (fun x e => fun hx => hvc (by rw [← hx]; exact e))
  · show Blk _ (if i = j then q else pl i) _ _
    by_cases d : i = j
    · rw [if_pos d, d]; exact ((B.alloc o).mod hm2 hvq).mod m (by show ¬ q = c; omega)
    · rw [if_neg d]
      exact ((h.pg i (by omega)).mod hm (h.np i (by omega)).2.2).mod m (h.np i (by omega)).2.1
  · have b2 : Below w.heap.size w (W2.alloc o) := h.bel.trans (h1.mono hws)
    exact (b2.trans (hm2.below b2.size (fun k e => (h.nv k e).1))).trans (m.below (by have := hm2.size; have := b2.size; omega) (fun k e => by rw [e]; exact h.nc))
  · rcases hk k e with d | d
    · exact h.nv k d
    · exact ⟨by omega, by omega⟩
  · show w.heap.size ≤ (if i = j then q else pl i) ∧ (if i = j then q else pl i) ≠ c ∧ v'.ownBlock ≠ some (if i = j then q else pl i)
    by_cases d : i = j
    · rw [if_pos d]
      refine ⟨by omega, by omega, fun e => ?_⟩
      rcases hk _ e with f | f
      · exact hvq f
      · omega
    · rw [if_neg d]
      obtain ⟨n1, n2, n3⟩ := h.np i (by omega)
      refine ⟨n1, n2, fun e => ?_⟩
      rcases hk _ e with f | f
      · exact n3 f
      · have := plt i (by omega); omega
  · have e' : (if i = j then q else pl i) = (if i' = j then q else pl i') := e
    by_cases d : i = j <;> by_cases f : i' = j
    · omega
    · rw [if_pos d, if_neg f] at e'; have := plt i' (by omega); omega
    · rw [if_neg d, if_pos f] at e'; have := plt i (by omega); omega
    · rw [if_neg d, if_neg f] at e'; exact h.d3 i i' (by omega) (by omega) e'
structure ArCy (w : World) (S beg : Nat) (Lv : Nat → Prop) (e : Ending) (w' : World) : Prop where
  ex : ∃ c, e = .returned (.pointer (some ⟨c, 0, none⟩)) ∧ ArO w' c S beg Lv (fun k => w.heap.size ≤ k) ∧ w.heap.size ≤ c
  bel : Below w.heap.size w w'
theorem ACp.done {w W : World} {c S beg used : Nat} {last : Int} {R : Nat → SlR} {v : Value} {pl : Nat → Nat} {Lv : Nat → Prop} {np : Nat} (h : ACp w c S beg used last R np v pl W) (hp : ArP S beg used last R Lv) (hn : np = (beg + 63) / 64) : ArCy w S beg Lv (.returned (.pointer (some ⟨c, 0, none⟩))) W := by
  refine ⟨⟨c, rfl, ⟨⟨v, np, pl⟩, used, last, R, ⟨h.box, h.row, h.pg, fun e => (h.nv c e).2 rfl, fun i hi => (h.np i hi).2, h.d3, hn⟩, hp, ?_⟩, h.nc⟩, h.bel⟩
  rintro k (e | e | ⟨i, hi, e⟩)
  · rw [e]; exact h.nc
  · exact (h.nv k e).1
  · rw [← e]; exact (h.np i hi).1
set_option maxHeartbeats 4000000 in
set_option maxRecDepth 100000 in
theorem ar_copy (w : World) (b S beg : Nat) (Lv F : Nat → Prop) (h : ArO w b S beg Lv F) : Calls Tryz.prog 65 #[.pointer (some ⟨b, 0, none⟩)] w (ArCy w S beg Lv) := by
  obtain ⟨G, used, last, R, hr, hp, hf⟩ := h
  have HV := Lib.hid (ar_valid b w hr.c0)
  have HR := Lib.hid hr
  have HP := Lib.hid hp
  have HNP0 := Lib.hid hr.np
  have hnp : G.np ≤ 1024 := by have := hr.np; have := hp.bg; have := hp.ss; omega
  have c2 := hr.c2
  have c3 := hr.c3
  have c4 := hr.c4
  have c5 := hr.c5
  clear hr hp hf
  go_enter Tryz.func65, Tryz.ntmps65
  go_upto_region 3 with (go_at_call 99; refine HV.out.mono ?_; rintro e w' ⟨rfl, rfl⟩)
  refine region_tailD 16 (by kernel_rfl) (by kernel_rfl) ?_
  intro w1 hw1
  replace c2 := hw1.cell c2
  replace c3 := hw1.cell c3
  replace c4 := hw1.cell c4
  replace c5 := hw1.cell c5
  have HB1 := Lib.hid hw1.self
  clear hw1
  simp only [List.take_succ_cons, List.take_zero, List.drop_succ_cons, List.drop_zero]
  repeat still_step
  refine wpStill_nil ?_
  have HX := Lib.hid (Blk.new w1 161 [.pointer none, .slice none 0 0, .int .i64 (S : Int), .int .i64 (beg : Int), .int .i64 (used : Int), .int .i64 last])
  have HBX := Lib.hid (bel_alloc w1 (.cells #[.pointer none, .slice none 0 0, .int .i64 (S : Int), .int .i64 (beg : Int), .int .i64 (used : Int), .int .i64 last] 161))
  clear c2 c3 c4 c5
  go_upto_region 4 with fail
  obtain ⟨c, HBE⟩ : ∃ c, Hid (w1.heap.size = c) := ⟨_, rfl⟩
  have HX' : Hid (Blk (w1.alloc (.cells #[.pointer none, .slice none 0 0, .int .i64 (S : Int), .int .i64 (beg : Int), .int .i64 (used : Int), .int .i64 last] 161)) c 161 [.pointer none, .slice none 0 0, .int .i64 (S : Int), .int .i64 (beg : Int), .int .i64 (used : Int), .int .i64 last]) := by rw [← HBE.out]; exact HX.out
  simp only [HBE.out]
  have HBX' := HBX
  clear HX HBX
  generalize (w1.alloc (.cells #[.pointer none, .slice none 0 0, .int .i64 (S : Int), .int .i64 (beg : Int), .int .i64 (used : Int), .int .i64 last] 161)) = w2 at *
  have d0 := HX'.out.cell (i := 0) rfl
  have f0 := HX'.out.free 0
  have HNC : Hid (w.heap.size ≤ c) := by show _ ≤ _; have := HB1.out.size; have := HBE.out; omega
  have HMD := Lib.hid ((Mod.refl (fun x => x = c) w2).setCell ⟨c, 0, none⟩ (fun _ => rfl) (.pointer (some ⟨c, 0, none⟩)))
  have HA0 : Hid (ACp w c S beg used last R 0 (.slice none 0 0) (fun _ => 0) (w2.setCell ⟨c, 0, none⟩ (.pointer (some ⟨c, 0, none⟩)))) :=
    ⟨HX'.out.set 0 _, World.ownsRow_nil _ _ _ _, fun i hi => absurd hi (Nat.not_lt_zero i), bel_mod (bel_then HB1.out HBX'.out) HMD.out (fun x e => by rw [e]; exact HNC.out), HNC.out, fun k e => by simp [Value.ownBlock] at e, fun i hi => absurd hi (Nat.not_lt_zero i), fun i i' hi => absurd hi (Nat.not_lt_zero i)⟩
  clear HMD
  go_upto_region 5 with fail
  clear d0 f0
  generalize w2.setCell ⟨c, 0, none⟩ (.pointer (some ⟨c, 0, none⟩)) = w3 at *
  have HR3 := Lib.hid (HR.out.below HA0.out.bel)
  obtain ⟨ao, cap, hbv⟩ := owns_slice HR3.out.row
  have b1 := HR3.out.box.cell (i := 1) rfl
  rw [hbv] at b1
  have HBV := Lib.hid hbv
  have HNPE := Lib.hid HNP0.out
  obtain ⟨np, HNE⟩ : ∃ n, Hid (G.np = n) := ⟨_, rfl⟩
  rw [HNE.out] at b1 hnp
  clear hbv
  go_wp2_with fail
  clear b1
  go_loopw [37] (fun s37 wr => ∃ (j : Nat) (v : Value) (pl : Nat → Nat), j ≤ np ∧ s37 = .int .i64 (j : Int) ∧ ACp w c S beg used last R j v pl wr) (fun s37 _ => np - (intOf s37).toNat)
  case atStart => exact ⟨0, _, _, Nat.zero_le _, rfl, HA0.out⟩
  case round =>
    obtain ⟨j, v, pl, hj, rfl, ha⟩ := hrel
    have HA := Lib.hid ha
    clear ha HA0
    by_cases hlt : j < np
    · have t1 : decide ((j : Int) < (np : Int)) = true := decide_eq_true (by omega)
      have t2 : decide (j < np) = true := decide_eq_true hlt
      have HRR := Lib.hid (HR.out.below HA.out.bel)
      have hjg : j < G.np := by rw [HNE.out]; exact hlt
      have hwj : IntKind.i64.wrap ((j : Int) + 1) = (j : Int) + 1 := IntWalk.i64_in _ (by omega)
      obtain ⟨g, cap', hv', _, _, _, hc, _⟩ := owns_form HRR.out.row (by omega)
      have cj := (hc j (by omega)).trans (pRow_get hjg)
      rw [HBV.out] at hv'
      injection hv' with q1 q2 q3
      subst q1 q3
      have tj : (j : Int) < (np : Int) := by omega
      have HQ := Lib.hid (HRR.out.pg j hjg)
      obtain ⟨ao2, cp2, hv2⟩ := owns_slice HA.out.row
      subst hv2
      have k1 := HA.out.box.cell (i := 1) rfl
      have HLT := Lib.hid hlt
      have HPL : Hid ((pgCells R j).length = 192) := pg_len R j
      clear hc q2 hjg hlt
      generalize G.pl j = pj at *
      go_wp2_with (first
        | (with_reducible refine wpList_loadBlk pj 177 (pgCells R j) _ rfl HQ.out Tryz.underlying177 rfl (by rw [HPL.out]; kernel_rfl) ?_)
        | (with_reducible refine wpList_allocB _ Tryz.zeroABlock ?_))
      intro w4 B1 hb1
      have HB4 := Lib.hid hb1
      have B1' : Blk w4 wr.heap.size 177 (pgCells (fun _ => sl0) 0) := B1
      have HBL := Lib.hid B1'
      have hlw : c < wr.heap.size := World.block_lt_of_cell? wr _ k1
      clear B1 B1' hb1 cj
      refine wpList_storeBlk wr.heap.size 177 (pgCells (fun _ => sl0) 0) (pgCells R j) rfl rfl HBL.out (by rw [HPL.out, pg_len]) (by rw [HPL.out]; kernel_rfl) (pgCells_one _ _) ?_
      intro w5 B2 hm2
      have HB5 : Hid (Below wr.heap.size wr w5) := HB4.out.trans (hm2.below HB4.out.size (fun k hk => by omega))
      have HB2 := Lib.hid B2
      have k1' := (HB5.out.cell hlw).trans k1
      have HOW : Hid ((w5.alloc (.cells #[.pointer (some ⟨wr.heap.size, 0, none⟩)] 175)).ownsRow 0 175 1 (.slice ao2 j cp2) j (pRow j pl)) := (owns_same HA.out.row (fun k e => HB5.out.block k (HA.out.row.lt k e).2)).alloc _
      have HNS := Lib.hid (news_new w5 175 [.pointer (some ⟨wr.heap.size, 0, none⟩)])
      clear B2 hm2 k1 HB4 HBL
      go_wp2_with (at_builtin; with_reducible refine wpList_appendB 175 (.pointer none) 1 8 Tryz.underlying159 Tryz.infoPABlock rfl (by decide) (.slice ao2 j cp2) j (pRow j pl) rfl HOW.out ⟨w5.heap.size, 0, none⟩ 1 1 [.pointer (some ⟨wr.heap.size, 0, none⟩)] rfl rfl HNS.out (by simp [Value.oneCell']) (by unfold maxLen; omega) (by omega) ?_)
      intro v' w6 ho hg hk
      obtain ⟨ao3, cp3, rfl⟩ := owns_slice ho
      obtain ⟨box6, hst⟩ := HA.out.step (.cells #[.pointer (some ⟨wr.heap.size, 0, none⟩)] 175) HB5.out HB2.out (Nat.le_refl _) ho hg (fun k e => hk k e)
      have e1 := box6.cell (i := 1) rfl
      have f1 := box6.free 1
      have HST := Lib.hid hst
      clear box6 hst ho hg hk HOW HNS k1'
      go_wp2_with fail
      go_roundw
      case rel => exact ⟨j + 1, _, _, HLT.out, by go_num, HST.out⟩
      case measure => have := HLT.out; simp [intOf]; omega
    · obtain rfl : j = np := by omega
      have t1 : decide ((j : Int) < (j : Int)) = false := decide_eq_false (by omega)
      have FIN := Lib.hid (HA.out.done HP.out (by rw [← HNE.out]; exact HNP0.out))
      clear HA
      go_wp2_with fail
      go_ret
      exact FIN.out
end Go.Proofs.YtlooaipipmiijaaGreat

namespace Go.Proofs.YtlooaipipmiijaaGreat
set_option linter.unusedVariables false
set_option linter.unusedSimpArgs false
open Go.RowKit
def OaP (S L : Nat) (Lv : Nat → Prop) (c lo hi : Nat) (W : World) : Prop := ArO W c S L Lv (fun k => lo ≤ k ∧ k < hi) ∧ hi ≤ W.heap.size
def OrP (T : TypeId) (n : Nat) (xs : List Value) (v : Value) (lo hi : Nat) (W : World) : Prop := W.ownsRow 0 T 1 v n xs ∧ (∀ k, v.ownBlock = some k → lo ≤ k ∧ k < hi) ∧ hi ≤ W.heap.size
theorem oa_mk {w w' : World} {S L c : Nat} {Lv : Nat → Prop} (h : ArO w' c S L Lv (fun k => w.heap.size ≤ k)) : OaP S L Lv c w.heap.size w'.heap.size w' := ⟨h.tight, Nat.le_refl _⟩
theorem oa_up {w w' : World} {S L c lo hi : Nat} {Lv : Nat → Prop} (h : Hid (OaP S L Lv c lo hi w)) (b : Below w.heap.size w w') : Hid (OaP S L Lv c lo hi w') := ⟨h.out.1.below b, Nat.le_trans h.out.2 b.size⟩
theorem or_mk {w w' : World} {T : TypeId} {n : Nat} {xs : List Value} {v : Value} (h : NewRow w T 1 n xs v w') : OrP T n xs v w.heap.size w'.heap.size w' := ⟨h.own, fun k e => ⟨h.new k e, (h.own.lt k e).2⟩, Nat.le_refl _⟩
theorem or_up {w w' : World} {T : TypeId} {n lo hi : Nat} {xs : List Value} {v : Value} (h : Hid (OrP T n xs v lo hi w)) (b : Below w.heap.size w w') : Hid (OrP T n xs v lo hi w') := ⟨owns_same h.out.1 (fun k e => b.block k (h.out.1.lt k e).2), h.out.2.1, Nat.le_trans h.out.2.2 b.size⟩
theorem idRow_one (L : Nat) (D : Nat → Nat) : ∀ u ∈ idRow L D, u.oneCell' = true := by
  intro u hu
  unfold idRow at hu
  obtain ⟨i, _, rfl⟩ := List.mem_map.1 hu
  rfl
theorem cRow_one (n : Nat) (C : Nat → Nat) : ∀ u ∈ cRow n C, u.oneCell' = true := by
  intro u hu
  unfold cRow at hu
  obtain ⟨i, _, rfl⟩ := List.mem_map.1 hu
  rfl
structure InCs (w : World) (S L : Nat) (Lv : Nat → Prop) (D : Nat → Nat) (n : Nat) (C : Nat → Nat) (c : Nat) (W : World) : Prop where
  ex : ∃ ab iv cb cp FA, Blk W c 167 [.pointer none, .pointer (some ⟨ab, 0, none⟩), iv, .slice (some ⟨cb, 0, none⟩) n cp] ∧ W.ownsRow 0 25 1 iv L (idRow L D) ∧ W.ownsRow 0 3 1 (.slice (some ⟨cb, 0, none⟩) n cp) n (cRow n C) ∧ ArO W ab S L Lv FA ∧
    (∀ k, FA k → w.heap.size ≤ k ∧ k ≠ c ∧ k ≠ cb ∧ iv.ownBlock ≠ some k) ∧ (∀ k, iv.ownBlock = some k → w.heap.size ≤ k ∧ k ≠ c ∧ k ≠ cb) ∧ w.heap.size ≤ cb ∧ cb ≠ c
  bel : Below w.heap.size w W
  new : w.heap.size ≤ c
theorem in_cs {w W : World} {S L n ab l1 h1 l2 h2 l3 h3 : Nat} {Lv : Nat → Prop} {D C : Nat → Nat} {iv cv : Value} (hn : 0 < n) (ha : Hid (OaP S L Lv ab l1 h1 W)) (hi : Hid (OrP 25 L (idRow L D) iv l2 h2 W)) (hc : Hid (OrP 3 n (cRow n C) cv l3 h3 W)) (hb : Below w.heap.size w W)
    (e1 : w.heap.size ≤ l1) (e2 : w.heap.size ≤ l2) (e3 : w.heap.size ≤ l3) (e4 : h1 ≤ l2 ∨ h2 ≤ l1) (e5 : h1 ≤ l3 ∨ h3 ≤ l1) (e6 : h2 ≤ l3 ∨ h3 ≤ l2) :
    InCs w S L Lv D n C W.heap.size (W.alloc (.cells #[.pointer none, .pointer (some ⟨ab, 0, none⟩), iv, cv] 167)) := by
  obtain ⟨a1, a2⟩ := ha.out
  obtain ⟨i1, i2, i3⟩ := hi.out
  obtain ⟨c1, c2, c3⟩ := hc.out
  obtain ⟨cb, cp, rfl, _⟩ := owns_form c1 hn
  have hcb := c2 cb rfl
  have hs := hb.size
  have hA : ArO (W.alloc (.cells #[.pointer none, .pointer (some ⟨ab, 0, none⟩), iv, .slice (some ⟨cb, 0, none⟩) n cp] 167)) ab S L Lv (fun k => l1 ≤ k ∧ k < h1) := a1.below (bel_alloc W _)
  refine ⟨⟨ab, iv, cb, cp, fun k => l1 ≤ k ∧ k < h1, Blk.new W _ [_, _, _, _], i1.alloc _, c1.alloc _, hA, fun k hk => ⟨by omega, by omega, by omega, fun e => ?_⟩, fun k e => ?_, by omega, by omega⟩, hb.alloc hs _, hs⟩
  · have := i2 k e; omega
  · have := i2 k e; exact ⟨by omega, by omega, by omega⟩
structure InCy (w : World) (S : Nat) (Lv : Nat → Prop) (D : Nat → Nat) (e : Ending) (w' : World) : Prop where
  ex : ∃ c, e = .returned (.pointer (some ⟨c, 0, none⟩)) ∧ InO w' c S Lv D (fun k => w.heap.size ≤ k) ∧ w.heap.size ≤ c
  bel : Below w.heap.size w w'
theorem in_keep {w w' : World} {b : Nat} {v1 v2 v3 : Value} (h1 : Hid (w.cell? ⟨b, 1, none⟩ = some v1)) (h2 : Hid (w.cell? ⟨b, 2, none⟩ = some v2)) (h3 : Hid (w.cell? ⟨b, 3, none⟩ = some v3)) (hb : Below w.heap.size w w') :
    w'.cell? ⟨b, 1, none⟩ = some v1 ∧ w'.cell? ⟨b, 2, none⟩ = some v2 ∧ w'.cell? ⟨b, 3, none⟩ = some v3 ∧ Below w.heap.size w w' :=
  ⟨(hb.cell (World.block_lt_of_cell? w _ h1.out)).trans h1.out, (hb.cell (World.block_lt_of_cell? w _ h2.out)).trans h2.out, (hb.cell (World.block_lt_of_cell? w _ h3.out)).trans h3.out, hb⟩
theorem bel_next {w W w1 : World} (h1 : Below w.heap.size w W) (h2 : Below W.heap.size W w1) : Below w.heap.size w w1 := h1.trans (h2.mono h1.size)
set_option maxHeartbeats 8000000 in
set_option maxRecDepth 100000 in
theorem in_copy (w : World) (b S : Nat) (Lv : Nat → Prop) (D : Nat → Nat) (F : Nat → Prop) (h : InO w b S Lv D F) :
    Calls Tryz.prog 66 #[.pointer (some ⟨b, 0, none⟩)] w (InCy w S Lv D) := by
  obtain ⟨G, L, FA, hr, hp, ha, h4, h5⟩ := h
  have HV := Lib.hid (in_valid b w hr.c0)
  have HP := Lib.hid hp
  have HA := Lib.hid ha
  have HI := Lib.hid hr.row
  have HC := Lib.hid hr.cel
  have C1 := Lib.hid hr.c1
  obtain ⟨ao, cp, hiv⟩ := owns_slice hr.row
  have c2 := hr.c2
  rw [hiv] at c2 HI
  have C2 := Lib.hid c2
  have C3 := Lib.hid hr.c3
  have HN17 := Lib.hid hr.n17
  have HPW : Hid (G.n = 2 ^ G.m ∧ G.m ≤ 17) := ⟨hr.pw, hr.mb0⟩
  have HL : Hid (L ≤ 65536) := by show _ ≤ _; have := ha.sz; omega
  have HTW := Lib.hid hp.two
  clear hr hp ha h4 h5 hiv c2
  go_enter Tryz.func66, Tryz.ntmps66
  go_upto_region 3 with (go_at_call 102; refine HV.out.mono ?_; rintro e w' ⟨rfl, rfl⟩)
  go_cut [3] (fun s3 wx => ∃ c, s3 = .pointer (some ⟨c, 0, none⟩) ∧ InCs w S L Lv D G.n G.C c wx)
  case first =>
    go_region_held3 (fun w' => w'.cell? ⟨b, 1, none⟩ = some (.pointer (some ⟨G.ab, 0, none⟩)) ∧ w'.cell? ⟨b, 2, none⟩ = some (.slice ao L cp) ∧ w'.cell? ⟨b, 3, none⟩ = some (.slice (some ⟨G.cb, 0, none⟩) G.n G.cp) ∧ Below w.heap.size w w')
      (((try go_split_ands); refine in_keep C1 C2 C3 ?_; first | assumption | exact (Below.refl _ _).drew | exact (Below.drew (by assumption)) | exact (Below.alloc (by assumption) (Below.size (by assumption)) _)))
      (first | (go_at_call 65; (try go_split_ands); refine (ar_copy _ G.ab S L Lv FA (HA.out.below (by assumption))).mono ?_; rintro e w1 ⟨⟨c, rfl, hao, hnc⟩, hb⟩; have hsz := hb.size; have HOA := Lib.hid (oa_mk hao); (try replace HOI := or_up HOI hb); (try replace HOC := or_up HOC hb); have hbx := bel_next (by assumption) hb; clear hao hb) | (go_at_call 106; (try go_split_ands); refine (clone_u64 _ (.slice ao L cp) L (idRow L D) (owns_same HI.out (fun k hk => Below.block (by assumption) k (HI.out.lt k hk).2)) (by have := HL.out; omega) (idRow_one L D)).mono ?_; rintro e w1 ⟨v, rfl, hrow⟩; obtain ⟨ao2, cp2, rfl⟩ := owns_slice hrow.own; have hb := hrow.bel; have hsz := hb.size; have HOI := Lib.hid (or_mk hrow); (try replace HOA := oa_up HOA hb); (try replace HOC := or_up HOC hb); have hbx := bel_next (by assumption) hb; clear hrow hb) | (go_at_call 69; (try go_split_ands); refine (clone_int _ (.slice (some ⟨G.cb, 0, none⟩) G.n G.cp) G.n (cRow G.n G.C) (owns_same HC.out (fun k hk => Below.block (by assumption) k (HC.out.lt k hk).2)) (by have := HN17.out; omega) (cRow_one G.n G.C)).mono ?_; rintro e w1 ⟨u, rfl, hrow⟩; obtain ⟨ao3, cp3, rfl⟩ := owns_slice hrow.own; have hb := hrow.bel; have hsz := hb.size; have HOC := Lib.hid (or_mk hrow); (try replace HOA := oa_up HOA hb); (try replace HOI := or_up HOI hb); have hbx := bel_next (by assumption) hb; clear hrow hb))
    all_goals
      have hd0 : w.drew.heap.size = w.heap.size := rfl
      have HN0 : Hid (0 < G.n) := by show _ < _; have := HTW.out; omega
      go_wp2_with fail
      go_meet
      exact ⟨_, rfl, in_cs HN0.out HOA HOI HOC (by assumption) (by omega) (by omega) (by omega) (by omega) (by omega) (by omega)⟩
  case rest =>
    obtain ⟨c, rfl, ⟨ab, iv, cb, cp2, FA2, hbk, hi, hc, hao, hfa, hiw, hcw, hcc⟩, hbel, hnew⟩ := hcut
    have d0 := hbk.cell (i := 0) rfl
    have f0 := hbk.free 0
    have HM := Lib.hid ((Mod.refl (fun x => x = c) wc).setCell ⟨c, 0, none⟩ (fun _ => rfl) (.pointer (some ⟨c, 0, none⟩)))
    have HO : Hid (InO (wc.setCell ⟨c, 0, none⟩ (.pointer (some ⟨c, 0, none⟩))) c S Lv D (fun k => w.heap.size ≤ k)) := by
      refine ⟨⟨ab, iv, cb, G.n, cp2, G.m, G.C⟩, L, FA2, ⟨hbk.set 0 _, owns_modL hc HM.out (fun k e => by injection e with e; have e' : cb = k := e; show ¬ k = c; omega), owns_modL hi HM.out (fun k e => (hiw k e).2.1), HPW.out.1, HPW.out.2, fun e => hcc e.symm, fun e => (hiw c e).2.1 rfl, fun e => (hiw cb e).2.2 rfl⟩, ⟨HP.out.tab, HP.out.mem, HP.out.inj, HP.out.two⟩, hao.mod HM.out (fun k hk => (hfa k hk).2.1), ?_, ?_⟩
      · intro k hk
        obtain ⟨q1, q2, q3, q4⟩ := hfa k hk
        refine ⟨?_, q1⟩
        rintro (e | e | e)
        · exact q2 e
        · exact q3 e
        · exact q4 e
      · rintro k (e | e | e)
        · rw [e]; exact hnew
        · rw [show k = cb from e]; exact hcw
        · exact (hiw k e).1
    have HB2 := Lib.hid (bel_mod hbel HM.out (fun x e => by rw [e]; exact hnew))
    have HN1 := Lib.hid hnew
    clear hbk hi hc hao hfa hiw hcw hcc hbel hnew HM
    go_wp2_with fail
    go_ret
    exact ⟨⟨c, rfl, HO.out, HN1.out⟩, HB2.out⟩
end Go.Proofs.YtlooaipipmiijaaGreat

namespace Go.Proofs.YtlooaipipmiijaaGreat
set_option linter.unusedVariables false
set_option linter.unusedSimpArgs false
open Go.RowKit
open Go.Maps (Keyed)
open Go.WideElems (rg)
def mapRK (v : Value) : Option (DataW Value × List MemPlace) := some (.held v, [])
def MapK (q : IntKind) (w : World) (P : Program) (k : TypeId) (b c : Nat) (F : Int → Option Value) : Prop :=
  ∃ D : DataW Value, w.ownsMap P k mapRK b c D ∧ Maps.size D = c ∧ ∀ i : Int, Maps.has D (.int q i) = (F i).isSome ∧ ∀ z, D.atKey (.int q i) (.held z) = .held ((F i).getD z)
theorem owns_tight {H : Type} {P : Program} {k : TypeId} {R : Value → Option (DataW H × List MemPlace)} {w : World} {b n : Nat} {D : DataW H} (h : w.ownsMap P k R b n D) : w.ownsMap P k R b (Maps.size D) D := by
  obtain ⟨es, clock, hb, Ft, hs, hD⟩ := h
  subst hD
  refine ⟨es, clock, hb, Ft, ?_, rfl⟩
  have : Maps.size (DataW.map ((es.toList.map (rg P k R)).foldr DataW.insert [])) = es.size := by simp [Maps.size, length_sorted]
  omega
section
variable {q : IntKind} {w w' : World} {P : Program} {k t e : TypeId} {b c : Nat} {F : Int → Option Value}
theorem MapK.made (q : IntKind) (w : World) (P : Program) (k : TypeId) : MapK q (w.alloc (.map #[] 0)) P k w.heap.size 0 (fun _ => none) :=
  ⟨_, World.ownsMap_made w P k mapRK, rfl, fun i => ⟨by simp [Maps.has], fun z => by simp [DataW.atKey]⟩⟩
theorem MapK.lt (h : MapK q w P k b c F) : b < w.heap.size := h.choose_spec.1.lt
theorem MapK.congr {G : Int → Option Value} (h : MapK q w P k b c F) (e : ∀ i, F i = G i) : MapK q w P k b c G := by
  rw [show G = F from (funext e).symm]; exact h
theorem MapK.heap (h : MapK q w P k b c F) (e : w'.heap[b]? = w.heap[b]?) : MapK q w' P k b c F := by
  obtain ⟨D, ⟨es, clock, hb, Ft, hs, hD⟩, h2⟩ := h
  exact ⟨D, ⟨es, clock, e.trans hb, Ft, hs, hD⟩, h2⟩
theorem MapK.mod {G : Nat → Prop} (h : MapK q w P k b c F) (m : Mod G w w') (hn : ¬ G b) : MapK q w' P k b c F := h.heap (m.block b h.lt hn)
theorem MapK.below {B : Nat} (h : MapK q w P k b c F) (m : Below B w w') (hn : b < B) : MapK q w' P k b c F := h.heap (m.block b hn)
theorem wf_i64K {i : Int} (h1 : -9223372036854775808 ≤ i) (h2 : i ≤ 9223372036854775807) : (Lit.int .i64 i).wf = true := by
  simp only [Lit.wf, Bool.and_eq_true, decide_eq_true_eq]
  exact ⟨h1, h2⟩
theorem wf_u64K {i : Int} (h1 : 0 ≤ i) (h2 : i ≤ 18446744073709551615) : (Lit.int .u64 i).wf = true := by
  simp only [Lit.wf, Bool.and_eq_true, decide_eq_true_eq]
  exact ⟨h1, h2⟩
theorem MapK.look (h : MapK q w P k b c F) (hk : P.underlying k = some (.int q)) (ht : P.underlying t = some (.map k e)) {z : Value} (hz : (zeroValue e).run P w = .ok z w) {i : Int} (hi : (Lit.int q i).wf = true) :
    (Instr.lookup t (.map (some b)) (.int q i) false).run P w = .ok ((F i).getD z) w := by
  obtain ⟨D, h1, _, h2⟩ := h
  obtain ⟨v, ps, hrun, hv⟩ := h1.lookup (Maps.int_keyed hk) ht hz (zd := .held z) (zp := []) rfl (Maps.keyOf_int_mk hk hi)
  rw [(h2 i).2 z] at hv
  cases hv
  exact hrun
theorem MapK.look_ok (h : MapK q w P k b c F) (hk : P.underlying k = some (.int q)) (ht : P.underlying t = some (.map k e)) {z : Value} (hz : (zeroValue e).run P w = .ok z w) {i : Int} (hi : (Lit.int q i).wf = true) :
    (Instr.lookup t (.map (some b)) (.int q i) true).run P w = .ok (.tuple #[(F i).getD z, .bool (F i).isSome]) w := by
  obtain ⟨D, h1, _, h2⟩ := h
  obtain ⟨v, ps, hrun, hv⟩ := h1.look_ok (Maps.int_keyed hk) ht hz (zd := .held z) (zp := []) rfl (Maps.keyOf_int_mk hk hi)
  rw [(h2 i).2 z] at hv
  rw [(h2 i).1] at hrun
  cases hv
  exact hrun
theorem MapK.store (h : MapK q w P k b c F) (hk : P.underlying k = some (.int q)) (ht : P.underlying t = some (.map k e)) (hn : c < maxLen) {i : Int} (hi : (Lit.int q i).wf = true) (v : Value) :
    ∃ w', (Instr.mapUpdate t (.map (some b)) (.int q i) v).run P w = .ok () w' ∧ MapK q w' P k b (if (F i).isSome then c else c + 1) (fun j => if j = i then some v else F j) ∧ Mod (fun x => x = b) w w' := by
  obtain ⟨D, h1, hc, h2⟩ := h
  obtain ⟨w', hrun, h3, h4⟩ := h1.update (Maps.int_keyed hk) ht hn (Maps.keyOf_int_mk hk hi) (d := .held v) (ps := []) rfl
  have hI : Maps.IsMap D := h1.isMap
  have hsz := Maps.size_put (h1.tidy (Maps.int_keyed hk)) (k := Lit.int q i) (.held v : DataW Value)
  rw [(h2 i).1, hc] at hsz
  refine ⟨w', hrun, ⟨_, by rw [← hsz]; exact owns_tight h3, hsz, fun j => ?_⟩, (Mod.refl _ w).grown h4 (fun x hx _ => by injection hx with hx; exact hx.symm)⟩
  show Maps.has _ _ = (if j = i then some v else F j).isSome ∧ ∀ z, _ = DataW.held ((if j = i then some v else F j).getD z)
  by_cases hj : j = i
  · subst hj
    rw [if_pos rfl, Maps.has_put_same hI (show WideAt.IsKeyLit (Lit.int q j) from trivial)]
    exact ⟨rfl, fun z => Maps.atKey_put_same hI (show WideAt.IsKeyLit (Lit.int q j) from trivial) _ _⟩
  · have hne : (Lit.int q j) ≠ Lit.int q i := fun e => hj (by injection e)
    rw [if_neg hj, Maps.has_put_other hne]
    exact ⟨(h2 j).1, fun z => (Maps.atKey_put_other hne _ _).trans ((h2 j).2 z)⟩
theorem mapTurned_mod {w w' : World} {b : Nat} (h : w.mapTurned w' b) : Mod (fun x => x = b) w w' :=
  (Mod.refl _ w).grown h.grown (fun x hx _ => by injection hx with hx; exact hx.symm)
theorem MapK.drop (h : MapK q w P k b c F) (hk : P.underlying k = some (.int q)) (ht : P.underlying t = some (.map k e)) {i : Int} (hi : (Lit.int q i).wf = true) (ty : TypeId) :
    ∃ w', (Builtin.delete_ #[t, k] ty #[.map (some b), .int q i]).run P w = .ok (.tuple #[]) w' ∧ MapK q w' P k b (if (F i).isSome then c - 1 else c) (fun j => if j = i then none else F j) ∧ Mod (fun x => x = b) w w' := by
  obtain ⟨D, h1, hc, h2⟩ := h
  obtain ⟨w', hrun, h3, h4⟩ := h1.drop (Maps.int_keyed hk) ht (Maps.keyOf_int_mk hk hi) ty
  have hsz := Maps.size_del (h1.tidy (Maps.int_keyed hk)) (k := Lit.int q i)
  rw [(h2 i).1, hc] at hsz
  have hsz' : Maps.size (D.del (.int q i)) = if (F i).isSome then c - 1 else c := by
    by_cases k : (F i).isSome = true
    · rw [if_pos k] at hsz ⊢; omega
    · rw [if_neg k] at hsz ⊢; omega
  refine ⟨w', hrun, ⟨_, by rw [← hsz']; exact owns_tight h3, hsz', fun j => ?_⟩, mapTurned_mod h4⟩
  show Maps.has _ _ = (if j = i then none else F j).isSome ∧ ∀ z, _ = DataW.held ((if j = i then none else F j).getD z)
  by_cases hj : j = i
  · subst hj
    rw [if_pos rfl, Maps.has_del_same]
    exact ⟨rfl, fun z => Maps.atKey_del_same _⟩
  · have hne : (Lit.int q j) ≠ Lit.int q i := fun e => hj (by injection e)
    rw [if_neg hj, Maps.has_del_other hne]
    exact ⟨(h2 j).1, fun z => (Maps.atKey_del_other hne _).trans ((h2 j).2 z)⟩
theorem wpList_storeK {ops : Array Oper} {rest : List Oper} {o : Oper} {a : Act} {Q : Exit → Act → World → Prop}
    (hg : o.guard = none) (m x v : Operand) (hop : o.op = Op.mapUpdate t m x v)
    (hk : P.underlying k = some (.int q)) (ht : P.underlying t = some (.map k e)) (hm : a.eval m = .map (some b)) (h : MapK q w P k b c F) (hn : c < maxLen) {i : Int} (hi : (Lit.int q i).wf = true) {c' : Nat} (hc' : (if (F i).isSome then c else c + 1) = c') (val : Value) (hx : a.eval x = .int q i) (hv : a.eval v = val)
    (hK : ∀ w', MapK q w' P k b c' (fun j => if j = i then some val else F j) → Mod (fun x => x = b) w w' → wpList P ops Q rest (a.put o.dst undef) w') :
    wpList P ops Q (o :: rest) a w := by
  refine wpList_plain hg fun K' hK' => ?_
  obtain ⟨w', hrun, r1, r2⟩ := h.store hk ht hn hi val
  rw [hc'] at r1
  unfold Oper.wp
  simp [execOp, hop, hm, hx, hv, hrun, Result.andThen]
  exact hK' _ _ (hK w' r1 r2)
theorem wpList_dropK {ops : Array Oper} {rest : List Oper} {o : Oper} {a : Act} {Q : Exit → Act → World → Prop}
    (hg : o.guard = none) (m x : Operand) (hop : o.op = Op.call { callee := Callee.builtin Builtin.delete, args := #[m, x], argTypes := #[t, k] })
    (hk : P.underlying k = some (.int q)) (ht : P.underlying t = some (.map k e)) (hm : a.eval m = .map (some b)) (h : MapK q w P k b c F) {i : Int} (hi : (Lit.int q i).wf = true) {c' : Nat} (hc' : (if (F i).isSome then c - 1 else c) = c') (hx : a.eval x = .int q i)
    (hK : ∀ w', MapK q w' P k b c' (fun j => if j = i then none else F j) → Mod (fun x => x = b) w w' → wpList P ops Q rest (a.put o.dst (.tuple #[])) w') :
    wpList P ops Q (o :: rest) a w := by
  refine wpList_plain hg fun K' hK' => ?_
  obtain ⟨w', hrun, r1, r2⟩ := h.drop hk ht hi o.type
  rw [hc'] at r1
  unfold Oper.wp
  simp [execOp, hop, resolve, invoke, builtin, hm, hx, hrun, Result.andThen]
  exact hK' _ _ (hK w' r1 r2)
end
end Go.Proofs.YtlooaipipmiijaaGreat
