/- heap.Copy: the walk. -/
import Derived.Test.YtebclbpibafkdaaCopyP
import Derived.Deep.RegionHeld3
import Derived.Deep.DeepCutAuto
namespace Go.Proofs.Ytebclbpibafkdaa
set_option linter.unusedVariables false
set_option linter.unusedSimpArgs false
open Go.RowKit

theorem Try.infoPBlock : (Try.prog.info? 111).map (fun i => (i.zero, i.size, i.bytes)) = some (some (.pointer none), 1, 8) := by kernel_rfl

structure HCopy (w : World) (slots : Nat) (S : List Ent) (e : Ending) (w' : World) : Prop where
  bel : Below w.heap.size w w'
  out : ∃ c g', HObj w' c slots S g' ∧ (∀ k, g'.foot k → w.heap.size ≤ k) ∧ e = .returned (.pointer (some ⟨c, 0, none⟩))

/-- What the loads of the literal read. -/
theorem cs_keep {w w' : World} {b : Nat} {v1 v2 v3 : Value} (h1 : Hid (w.cell? ⟨b, 1, none⟩ = some v1)) (h2 : Hid (w.cell? ⟨b, 2, none⟩ = some v2)) (h3 : Hid (w.cell? ⟨b, 3, none⟩ = some v3)) (hb : Below w.heap.size w w') :
    w'.cell? ⟨b, 1, none⟩ = some v1 ∧ w'.cell? ⟨b, 2, none⟩ = some v2 ∧ w'.cell? ⟨b, 3, none⟩ = some v3 ∧ Below w.heap.size w w' :=
  ⟨(hb.cell (World.block_lt_of_cell? w _ h1.out)).trans h1.out, (hb.cell (World.block_lt_of_cell? w _ h2.out)).trans h2.out, (hb.cell (World.block_lt_of_cell? w _ h3.out)).trans h3.out, hb⟩

theorem plRow_one (pl : Nat → Nat) (i : Nat) : ∀ v ∈ plRow pl i, v.oneCell' = true := by
  intro v hv
  unfold plRow at hv
  obtain ⟨k, _, rfl⟩ := List.mem_map.1 hv
  rfl

theorem row_bel {w W w1 : World} {L : List Ent} {v : Value} (h1 : Below w.heap.size w W) (h2 : ENewRow W L v w1) : Below w.heap.size w w1 := h1.trans (h2.bel.mono h1.size)

set_option maxHeartbeats 4000000 in
set_option maxRecDepth 100000 in
theorem copy_ok (w : World) (b slots : Nat) (S : List Ent) (g : HG) (h : HObj w b slots S g) :
    Calls Try.prog 51 #[.pointer (some ⟨b, 0, none⟩)] w (HCopy w slots S) := by
  have HO := Lib.hid h
  obtain rfl := h.hb
  have hs := h.rep.hs
  have hnp : g.np ≤ 1024 := by unfold HG.np; omega
  have c0 := h.rep.hb.cell (i := 0) rfl
  have c1 := h.rep.hb.cell (i := 1) rfl
  have c2 := h.rep.hb.cell (i := 2) rfl
  have c3 := h.rep.hb.cell (i := 3) rfl
  obtain ⟨ao, cp, hiv⟩ := owns_slice h.rep.hi
  have hlen : g.it.length ≤ 65536 := Nat.le_trans h.good.len h.rep.hs
  have HR0 := h.rep.hi
  rw [hiv] at c2 HR0
  have HR := Lib.hid HR0
  have C1 := Lib.hid c1
  have C2 := Lib.hid c2
  have C3 := Lib.hid c3
  have HRep0 := Lib.hid h.rep
  clear h hiv HR0
  generalize hnn : g.np = np at *
  have HNP := Lib.hid hnn
  clear hnn
  have hmk := fun W => run_makeE (P := Try.prog) 88 111 (.pointer none) 8 Try.underlying88 Try.infoPBlock rfl .i64 .i64 np (by omega) (by unfold maxLen; omega) W
  go_enter Try.func51, Try.ntmps51
  go_upto_region 3 with (go_at_call 59; refine (valid_ok g.b w c0).mono ?_; rintro e w' ⟨rfl, rfl⟩)
  go_cut [3] (fun s3 wx => ∃ c v pb, s3 = .pointer (some ⟨c, 0, none⟩) ∧ CStart w g c v pb wx)
  case first =>
    go_region_held3 (fun w' => w'.cell? ⟨g.b, 1, none⟩ = some (.int .i64 (g.slots : Nat)) ∧ w'.cell? ⟨g.b, 2, none⟩ = some (.slice ao g.it.length cp) ∧ w'.cell? ⟨g.b, 3, none⟩ = some (.slice (some ⟨g.pb, 0, none⟩) np np) ∧ Below w.heap.size w w')
      (((try go_split_ands); refine cs_keep C1 C2 C3 ?_; first | assumption | exact (Below.refl _ _).drew | exact (Below.drew (by assumption)) | exact (Below.alloc (by assumption) (Below.size (by assumption)) _)))
      (first | (go_at_call 74; (try go_split_ands); refine (clone_ok _ (.slice ao g.it.length cp) g.it ?_ hlen).mono ?_; (exact owns_same HR.out (fun k hk => Below.block (by assumption) k (HR.out.lt k hk).2)); rintro e w1 ⟨v, rfl, hrow⟩; obtain ⟨ao2, cp2, rfl⟩ := owns_slice hrow.own; have hbx := row_bel (by assumption) hrow; have HROW := Lib.hid hrow; clear hrow))
    · go_wp2_with fail
      go_meet
      exact ⟨_, _, _, rfl, cstartA HNP.out HROW.out⟩
    · go_wp2_with fail
      go_meet
      exact ⟨_, _, _, rfl, cstartB HNP.out HROW.out⟩
  case rest =>
    obtain ⟨c, v, pb, rfl, hst⟩ := hcut
    have d0 := hst.blk.cell (i := 0) rfl
    have d1 := hst.blk.free 0
    have hin := hst.inv hs
    have c3' := (hst.bel.cell (World.block_lt_of_cell? w _ c3)).trans c3
    have hlb : g.b < c := Nat.lt_of_lt_of_le (World.block_lt_of_cell? w _ c3) hst.nc
    have c3'' : (wc.setCell ⟨c, 0, none⟩ (.pointer (some ⟨c, 0, none⟩))).cell? ⟨g.b, 3, none⟩ = some (.slice (some ⟨g.pb, 0, none⟩) np np) := by
      rw [World.cell?_setCell_other _ _ _ _ (by simp only [ne_eq, Addr.mk.injEq, and_true]; omega)]; exact c3'
    have HIN := Lib.hid hin
    clear hin hst c0 c1 c2 c3 c3' hmk C1 C2 HR
    go_wp2_with fail
    generalize hWW : World.setCell wc _ _ = W0 at *
    clear hWW d0 d1
    go_loopw [36] (fun s36 wr => ∃ (i : Nat) (g' : HG), i ≤ np ∧ s36 = .int .i64 i ∧ CInv w g c i g' wr) (fun s36 _ => np - (intOf s36).toNat)
    case atStart => exact ⟨0, _, by omega, rfl, HIN.out⟩
    case round =>
      obtain ⟨i, g', hi, rfl, hr⟩ := hrel
      have HI := Lib.hid hr
      clear HIN
      by_cases hlt : i < np
      · have hig : i < g.np := by rw [HNP.out]; exact hlt
        have hrep := HRep0.out.below hr.bel
        have cp := hrep.hp.cell (tbRow_get _ g.tb i hig)
        have HREP := Lib.hid hrep
        have e1 := HI.out.np
        rw [HNP.out] at e1
        have k3 := hr.rep.hb.cell (i := 3) rfl
        rw [e1, hr.b] at k3
        clear hr hrep
        cases htb : g.tb i with
        | none =>
          rw [htb] at cp
          have HZ := Lib.hid (HREP.out.hn i hig htb)
          clear htb
          go_wp2_with fail
          go_roundw
          case rel => exact ⟨i + 1, g', by omega, by go_num, HI.out.skip HZ.out⟩
          case measure => simp [intOf]; omega
        | some q =>
          rw [htb] at cp
          have HQ := Lib.hid (HREP.out.ht i q hig htb)
          clear htb
          have hpl : (plRow g.pl i).length = 64 := by simp [plRow]
          have HPL := Lib.hid hpl
          clear hpl
          go_wp2_with (first
            | (with_reducible refine wpList_loadBlk q 113 (plRow g.pl i) _ rfl HQ.out Try.underlying113 rfl (by rw [HPL.out]; kernel_rfl) ?_)
            | (with_reducible refine wpList_allocB _ Try.zeroBlock ?_))
          intro w1 B1 hb1
          have B1' : Blk w1 wr.heap.size 113 (List.replicate 64 (.int .i64 0)) := B1
          have HB1 := Lib.hid hb1
          have HBL := Lib.hid B1'
          have hlw : c < wr.heap.size := World.block_lt_of_cell? wr _ k3
          have k3' := (hb1.cell hlw).trans k3
          clear B1 B1' hb1 k3 cp
          refine wpList_storeBlk wr.heap.size 113 (List.replicate 64 (.int .i64 0)) (plRow g.pl i) rfl rfl HBL.out (by rw [HPL.out]; rfl) (by rw [HPL.out]; kernel_rfl) (plRow_one _ _) ?_
          intro w2 B2 hm2
          have hb2 : Below wr.heap.size wr w2 := HB1.out.trans (hm2.below HB1.out.size (fun k hk => by omega))
          have hr2 := HI.out.rep.below hb2
          have k3'' := (hm2.cell (p := ⟨c, 3, none⟩) (World.block_lt_of_cell? w1 _ k3') (fun e => by have e2 : c = wr.heap.size := e; omega)).trans k3'
          have e1 := HI.out.np
          rw [HNP.out] at e1
          have p0 := hr2.hp.cell (tbRow_get _ g'.tb i (by rw [e1]; exact hlt))
          have p1 := hr2.hp.free i
          have HC := Lib.hid (HI.out.copied hig hb2 B2)
          clear B2 hm2 hb2 hr2 k3' e1 HB1 HBL
          go_wp2_with fail
          go_roundw
          case rel => exact ⟨i + 1, _, by omega, by go_num, HC.out⟩
          case measure => simp [intOf]; omega
      · obtain rfl : i = np := by omega
        have FIN : Hid (HCopy w slots S (.returned (.pointer (some ⟨c, 0, none⟩))) wr) := by
          have h2 := HI.out
          rw [← HNP.out] at h2
          exact ⟨h2.bel, c, g', h2.done HO.out, h2.foot, rfl⟩
        clear hr HI
        go_wp2_with fail
        go_ret
        exact FIN.out

end Go.Proofs.Ytebclbpibafkdaa
