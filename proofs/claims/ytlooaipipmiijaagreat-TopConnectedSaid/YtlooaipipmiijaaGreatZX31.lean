/- Several texts in one: CopyW, TkA, FoA, FoB. -/
import Derived.Test.YtlooaipipmiijaaGreatZX05
import Derived.Test.YtlooaipipmiijaaGreatZX09
import Derived.Test.YtlooaipipmiijaaGreatZX17
import Derived.Test.YtlooaipipmiijaaGreatZX25
import Derived.Test.YtlooaipipmiijaaGreatZX30
import Derived.Deep.RegionHeld3
import Derived.Deep.DeepCutAuto
import Derived.Test.YtlooaipipmiijaaGreatProg
namespace Go.Proofs.YtlooaipipmiijaaGreat
set_option linter.unusedVariables false
set_option linter.unusedSimpArgs false
open Go.RowKit
theorem Tryz.infoPBlock : (Tryz.prog.info? 185).map (fun i => (i.zero, i.size, i.bytes)) = some (some (.pointer none), 1, 8) := by kernel_rfl
structure HCopy (w : World) (slots : Nat) (S : List Ent) (e : Ending) (w' : World) : Prop where
  bel : Below w.heap.size w w'
  out : ∃ c g', HObj w' c slots S g' ∧ (∀ k, g'.foot k → w.heap.size ≤ k) ∧ e = .returned (.pointer (some ⟨c, 0, none⟩))
theorem cs_keep {w w' : World} {b : Nat} {v1 v2 v3 : Value} (h1 : Hid (w.cell? ⟨b, 1, none⟩ = some v1)) (h2 : Hid (w.cell? ⟨b, 2, none⟩ = some v2)) (h3 : Hid (w.cell? ⟨b, 3, none⟩ = some v3)) (hb : Below w.heap.size w w') :
    w'.cell? ⟨b, 1, none⟩ = some v1 ∧ w'.cell? ⟨b, 2, none⟩ = some v2 ∧ w'.cell? ⟨b, 3, none⟩ = some v3 ∧ Below w.heap.size w w' :=
  ⟨(hb.cell (World.block_lt_of_cell? w _ h1.out)).trans h1.out, (hb.cell (World.block_lt_of_cell? w _ h2.out)).trans h2.out, (hb.cell (World.block_lt_of_cell? w _ h3.out)).trans h3.out, hb⟩
theorem plRow_one (pl : Nat → Nat) (i : Nat) : ∀ v ∈ plRow pl i, v.oneCell' = true := by
  intro v hv
  unfold plRow at hv
  obtain ⟨k, _, rfl⟩ := List.mem_map.1 hv
  rfl
theorem row_bel {w W w1 : World} {L : List Ent} {v : Value} (h1 : Below w.heap.size w W) (h2 : ENewRow W L v w1) : Below w.heap.size w w1 := h1.trans (h2.bel.mono h1.size)
set_option maxHeartbeats 4000000 in
set_option maxRecDepth 100000 in
theorem copy_ok (w : World) (b slots : Nat) (S : List Ent) (g : HG) (h : HObj w b slots S g) :
    Calls Tryz.prog 70 #[.pointer (some ⟨b, 0, none⟩)] w (HCopy w slots S) := by
  have HO := Lib.hid h
  obtain rfl := h.hb
  have hs := h.rep.hs
  have hnp : g.np ≤ 1024 := by unfold HG.np; omega
  have c0 := h.rep.hb.cell (i := 0) rfl
  have c1 := h.rep.hb.cell (i := 1) rfl
  have c2 := h.rep.hb.cell (i := 2) rfl
  have c3 := h.rep.hb.cell (i := 3) rfl
  obtain ⟨ao, cp, hiv⟩ := owns_slice h.rep.hi
  have hlen : g.it.length ≤ 65536 := Nat.le_trans h.good.len h.rep.hs
  have HR0 := h.rep.hi
  rw [hiv] at c2 HR0
  have HR := Lib.hid HR0
  have C1 := Lib.hid c1
  have C2 := Lib.hid c2
  have C3 := Lib.hid c3
  have HRep0 := Lib.hid h.rep
  clear h hiv HR0
  generalize hnn : g.np = np at *
  have HNP := Lib.hid hnn
  clear hnn
  have hmk := fun W => run_makeE (P := Tryz.prog) 181 185 (.pointer none) 8 Tryz.underlying181 Tryz.infoPBlock rfl .i64 .i64 np (by omega) (by unfold maxLen; omega) W
  go_enter Tryz.func70, Tryz.ntmps70
  go_upto_region 3 with (go_at_call 108; refine (valid_ok g.b w c0).mono ?_; rintro e w' ⟨rfl, rfl⟩)
  go_cut [3] (fun s3 wx => ∃ c v pb, s3 = .pointer (some ⟨c, 0, none⟩) ∧ CStart w g c v pb wx)
  case first =>
    go_region_held3 (fun w' => w'.cell? ⟨g.b, 1, none⟩ = some (.int .i64 (g.slots : Nat)) ∧ w'.cell? ⟨g.b, 2, none⟩ = some (.slice ao g.it.length cp) ∧ w'.cell? ⟨g.b, 3, none⟩ = some (.slice (some ⟨g.pb, 0, none⟩) np np) ∧ Below w.heap.size w w')
      (((try go_split_ands); refine cs_keep C1 C2 C3 ?_; first | assumption | exact (Below.refl _ _).drew | exact (Below.drew (by assumption)) | exact (Below.alloc (by assumption) (Below.size (by assumption)) _)))
      (first | (go_at_call 109; (try go_split_ands); refine (clone_ok _ (.slice ao g.it.length cp) g.it ?_ hlen).mono ?_; (exact owns_same HR.out (fun k hk => Below.block (by assumption) k (HR.out.lt k hk).2)); rintro e w1 ⟨v, rfl, hrow⟩; obtain ⟨ao2, cp2, rfl⟩ := owns_slice hrow.own; have hbx := row_bel (by assumption) hrow; have HROW := Lib.hid hrow; clear hrow))
    · go_wp2_with fail
      go_meet
      exact ⟨_, _, _, rfl, cstartA HNP.out HROW.out⟩
    · go_wp2_with fail
      go_meet
      exact ⟨_, _, _, rfl, cstartB HNP.out HROW.out⟩
  case rest =>
    obtain ⟨c, v, pb, rfl, hst⟩ := hcut
    have d0 := hst.blk.cell (i := 0) rfl
    have d1 := hst.blk.free 0
    have hin := hst.inv hs
    have c3' := (hst.bel.cell (World.block_lt_of_cell? w _ c3)).trans c3
    have hlb : g.b < c := Nat.lt_of_lt_of_le (World.block_lt_of_cell? w _ c3) hst.nc
    have c3'' : (wc.setCell ⟨c, 0, none⟩ (.pointer (some ⟨c, 0, none⟩))).cell? ⟨g.b, 3, none⟩ = some (.slice (some ⟨g.pb, 0, none⟩) np np) := by
      rw [World.cell?_setCell_other _ _ _ _ (by simp only [ne_eq, Addr.mk.injEq, and_true]; omega)]; exact c3'
    have HIN := Lib.hid hin
    clear hin hst c0 c1 c2 c3 c3' hmk C1 C2 HR
    go_wp2_with fail
    generalize hWW : World.setCell wc _ _ = W0 at *
    clear hWW d0 d1
    go_loopw [36] (fun s36 wr => ∃ (i : Nat) (g' : HG), i ≤ np ∧ s36 = .int .i64 i ∧ CInv w g c i g' wr) (fun s36 _ => np - (intOf s36).toNat)
    case atStart => exact ⟨0, _, by omega, rfl, HIN.out⟩
    case round =>
      obtain ⟨i, g', hi, rfl, hr⟩ := hrel
      have HI := Lib.hid hr
      clear HIN
      by_cases hlt : i < np
      · have hig : i < g.np := by rw [HNP.out]; exact hlt
        have hrep := HRep0.out.below hr.bel
        have cp := hrep.hp.cell (tbRow_get _ g.tb i hig)
        have HREP := Lib.hid hrep
        have e1 := HI.out.np
        rw [HNP.out] at e1
        have k3 := hr.rep.hb.cell (i := 3) rfl
        rw [e1, hr.b] at k3
        clear hr hrep
        cases htb : g.tb i with
        | none =>
          rw [htb] at cp
          have HZ := Lib.hid (HREP.out.hn i hig htb)
          clear htb
          go_wp2_with fail
          go_roundw
          case rel => exact ⟨i + 1, g', by omega, by go_num, HI.out.skip HZ.out⟩
          case measure => simp [intOf]; omega
        | some q =>
          rw [htb] at cp
          have HQ := Lib.hid (HREP.out.ht i q hig htb)
          clear htb
          have hpl : (plRow g.pl i).length = 64 := by simp [plRow]
          have HPL := Lib.hid hpl
          clear hpl
          go_wp2_with (first
            | (with_reducible refine wpList_loadBlk q 187 (plRow g.pl i) _ rfl HQ.out Tryz.underlying187 rfl (by rw [HPL.out]; kernel_rfl) ?_)
            | (with_reducible refine wpList_allocB _ Tryz.zeroBlock ?_))
          intro w1 B1 hb1
          have B1' : Blk w1 wr.heap.size 187 (List.replicate 64 (.int .i64 0)) := B1
          have HB1 := Lib.hid hb1
          have HBL := Lib.hid B1'
          have hlw : c < wr.heap.size := World.block_lt_of_cell? wr _ k3
          have k3' := (hb1.cell hlw).trans k3
          clear B1 B1' hb1 k3 cp
          refine wpList_storeBlk wr.heap.size 187 (List.replicate 64 (.int .i64 0)) (plRow g.pl i) rfl rfl HBL.out (by rw [HPL.out]; rfl) (by rw [HPL.out]; kernel_rfl) (plRow_one _ _) ?_
          intro w2 B2 hm2
          have hb2 : Below wr.heap.size wr w2 := HB1.out.trans (hm2.below HB1.out.size (fun k hk => by omega))
          have hr2 := HI.out.rep.below hb2
          have k3'' := (hm2.cell (p := ⟨c, 3, none⟩) (World.block_lt_of_cell? w1 _ k3') (fun e => by have e2 : c = wr.heap.size := e; omega)).trans k3'
          have e1 := HI.out.np
          rw [HNP.out] at e1
          have p0 := hr2.hp.cell (tbRow_get _ g'.tb i (by rw [e1]; exact hlt))
          have p1 := hr2.hp.free i
          have HC := Lib.hid (HI.out.copied hig hb2 B2)
          clear B2 hm2 hb2 hr2 k3' e1 HB1 HBL
          go_wp2_with fail
          go_roundw
          case rel => exact ⟨i + 1, _, by omega, by go_num, HC.out⟩
          case measure => simp [intOf]; omega
      · obtain rfl : i = np := by omega
        have FIN : Hid (HCopy w slots S (.returned (.pointer (some ⟨c, 0, none⟩))) wr) := by
          have h2 := HI.out
          rw [← HNP.out] at h2
          exact ⟨h2.bel, c, g', h2.done HO.out, h2.foot, rfl⟩
        clear hr HI
        go_wp2_with fail
        go_ret
        exact FIN.out
end Go.Proofs.YtlooaipipmiijaaGreat

namespace Go.Proofs.YtlooaipipmiijaaGreat
set_option linter.unusedVariables false
set_option linter.unusedSimpArgs false
open Go.RowKit
def caddV (a b : Int) : Int := if -9223372036854775808 ≤ a + b ∧ a + b ≤ 9223372036854775807 then a + b else 0
def caddE (a b : Int) : Int := if -9223372036854775808 ≤ a + b ∧ a + b ≤ 9223372036854775807 then 0 else 7
theorem cadd_ok (w : World) (a b : Int) (ha : -9223372036854775808 ≤ a ∧ a ≤ 9223372036854775807) (hb : -9223372036854775808 ≤ b ∧ b ≤ 9223372036854775807) :
    Calls Tryz.prog 84 #[.int .i64 a, .int .i64 b] w (fun e w' => e = .returned (.tuple #[.int .i64 (caddV a b), .int .i64 (caddE a b)]) ∧ w' = w) := by
  obtain ⟨s, hs⟩ : ∃ s, IntKind.i64.wrap (a + b) = s := ⟨_, rfl⟩
  have hsw := IntKind.wrap_i64 (a + b)
  rw [hs] at hsw
  by_cases hr : -9223372036854775808 ≤ a + b ∧ a + b ≤ 9223372036854775807
  · have e1 : caddV a b = s := by unfold caddV; rw [if_pos hr]; omega
    have e2 : caddE a b = 0 := if_pos hr
    have hsum : s = a + b := by omega
    have HE1 := Lib.hid e1
    have HE2 := Lib.hid e2
    rw [e1, e2]
    have hc : (decide (a < 0) == decide (b < 0)) = true → (decide (s < 0) != decide (a < 0)) = false := by
      by_cases h1 : a < 0 <;> by_cases h2 : b < 0
      · have h3 : s < 0 := by omega
        simp [h1, h2, h3]
      · simp [h1, h2]
      · simp [h1, h2]
      · have h3 : ¬ s < 0 := by omega
        simp [h1, h2, h3]
    cases h4 : (decide (a < 0) == decide (b < 0)) with
    | true =>
      have h5 : (decide (s < 0) == decide (a < 0)) = true := by simpa using hc h4
      clear hc hsw hsum hr e1 e2
      go_enter Tryz.func84, Tryz.ntmps84
      go_wp2_with fail
      go_ret2
      exact ⟨rfl, rfl⟩
    | false =>
      clear hc hsw hsum hr e1 e2
      go_enter Tryz.func84, Tryz.ntmps84
      go_wp2_with fail
      go_ret2
      exact ⟨rfl, rfl⟩
  · have e1 : caddV a b = 0 := if_neg hr
    have e2 : caddE a b = 7 := if_neg hr
    rw [e1, e2]
    have h4 : (decide (a < 0) == decide (b < 0)) = true := by
      by_cases h1 : a < 0 <;> by_cases h2 : b < 0
      · simp [h1, h2]
      · omega
      · omega
      · simp [h1, h2]
    have h5 : (decide (s < 0) == decide (a < 0)) = false := by
      by_cases h1 : a < 0 <;> by_cases h3 : s < 0
      · omega
      · simp [h1, h3]
      · simp [h1, h3]
      · omega
    clear hsw hr e1 e2
    go_enter Tryz.func84, Tryz.ntmps84
    go_wp2_with fail
    go_ret2
    exact ⟨rfl, rfl⟩
structure ClkO (w : World) (p : Nat) (W now : Int) : Prop where
  box : Blk w p 95 [.int .i64 W, .int .i64 now]
  hw : 1 ≤ W ∧ W ≤ 9223372036854775807
  hn : -9223372036854775808 ≤ now ∧ now ≤ 9223372036854775807
theorem ClkO.mod {F : Nat → Prop} {w w' : World} {p : Nat} {W now : Int} (h : ClkO w p W now) (m : Mod F w w') (h1 : ¬ F p) : ClkO w' p W now := ⟨h.box.mod m h1, h.hw, h.hn⟩
theorem ClkO.below {w w' : World} {p : Nat} {W now : Int} (h : ClkO w p W now) (m : Below w.heap.size w w') : ClkO w' p W now := ⟨h.box.below m h.box.lt, h.hw, h.hn⟩
theorem clk_valid (w : World) (p : Nat) (W now : Int) (h : ClkO w p W now) : Calls Tryz.prog 44 #[.pointer (some ⟨p, 0, none⟩)] w (fun e w' => e = .returned (.bool true) ∧ w' = w) := by
  have c0 := h.box.cell (i := 0) rfl
  have t1 : decide (W < 1) = false := decide_eq_false (by have := h.hw; omega)
  have t2 : decide (1 ≤ W) = true := decide_eq_true (by have := h.hw; omega)
  clear h
  go_enter Tryz.func44, Tryz.ntmps44
  go_wp2_with fail
  go_ret
  exact ⟨rfl, rfl⟩
theorem clk_now (w : World) (p : Nat) (W now : Int) (h : ClkO w p W now) : Calls Tryz.prog 32 #[.pointer (some ⟨p, 0, none⟩)] w (fun e w' => e = .returned (.int .i64 now) ∧ w' = w) := by
  have HV := Lib.hid (clk_valid w p W now h)
  have c1 := h.box.cell (i := 1) rfl
  clear h
  go_enter Tryz.func32, Tryz.ntmps32
  go_wp2_with (go_at_call 44; refine HV.out.mono ?_; rintro e w' ⟨rfl, rfl⟩)
  go_ret
  exact ⟨rfl, rfl⟩
theorem span_after (w : World) (W t : Int) (ha : 1 ≤ W ∧ W ≤ 9223372036854775807) (hb : -9223372036854775808 ≤ t ∧ t ≤ 9223372036854775807) :
    Calls Tryz.prog 45 #[.int .i64 W, .int .i64 t] w (fun e w' => e = .returned (.tuple #[.int .i64 (caddV t W), .int .i64 (caddE t W)]) ∧ w' = w) := by
  have HC := Lib.hid (cadd_ok w t W hb (by omega))
  go_enter Tryz.func45, Tryz.ntmps45
  go_wp2_with (go_at_call 84; refine HC.out.mono ?_; rintro e w' ⟨rfl, rfl⟩)
  go_ret2
  exact ⟨rfl, rfl⟩
theorem clk_expiry (w : World) (p : Nat) (W now t : Int) (h : ClkO w p W now) (hb : -9223372036854775808 ≤ t ∧ t ≤ 9223372036854775807) :
    Calls Tryz.prog 48 #[.pointer (some ⟨p, 0, none⟩), .int .i64 t] w (fun e w' => e = .returned (.tuple #[.int .i64 (caddV t W), .int .i64 (caddE t W)]) ∧ w' = w) := by
  have HV := Lib.hid (clk_valid w p W now h)
  have HS := Lib.hid (span_after w W t h.hw hb)
  have c0 := h.box.cell (i := 0) rfl
  clear h
  go_enter Tryz.func48, Tryz.ntmps48
  go_wp2_with (first | (go_at_call 44; refine HV.out.mono ?_; rintro e w' ⟨rfl, rfl⟩) | (go_at_call 45; refine HS.out.mono ?_; rintro e w' ⟨rfl, rfl⟩))
  go_ret2
  exact ⟨rfl, rfl⟩
def clkE (W now t : Int) : Int := if t < now then 10 else caddE t W
theorem clk_check (w : World) (p : Nat) (W now t : Int) (h : ClkO w p W now) (hb : -9223372036854775808 ≤ t ∧ t ≤ 9223372036854775807) :
    Calls Tryz.prog 19 #[.pointer (some ⟨p, 0, none⟩), .int .i64 t] w (fun e w' => e = .returned (.int .i64 (clkE W now t)) ∧ w' = w) := by
  have HV := Lib.hid (clk_valid w p W now h)
  have HS := Lib.hid (span_after w W t h.hw hb)
  have c0 := h.box.cell (i := 0) rfl
  have c1 := h.box.cell (i := 1) rfl
  clear h
  by_cases ht : t < now
  · have t1 : decide (t < now) = true := decide_eq_true ht
    have e1 : clkE W now t = 10 := if_pos ht
    rw [e1]
    clear e1 ht
    go_enter Tryz.func19, Tryz.ntmps19
    go_wp2_with (go_at_call 44; refine HV.out.mono ?_; rintro e w' ⟨rfl, rfl⟩)
    go_ret
    exact ⟨rfl, rfl⟩
  · have t1 : decide (t < now) = false := decide_eq_false ht
    have e1 : clkE W now t = caddE t W := if_neg ht
    rw [e1]
    clear e1 ht
    go_enter Tryz.func19, Tryz.ntmps19
    go_wp2_with (first | (go_at_call 44; refine HV.out.mono ?_; rintro e w' ⟨rfl, rfl⟩) | (go_at_call 45; refine HS.out.mono ?_; rintro e w' ⟨rfl, rfl⟩))
    go_ret
    exact ⟨rfl, rfl⟩
structure ClkAdv (w : World) (p : Nat) (W now t : Int) (e : Ending) (w' : World) : Prop where
  out : e = .returned (.int .i64 (clkE W now t))
  obj : ClkO w' p W (if clkE W now t = 0 then t else now)
  mod : Mod (fun x => x = p) w w'
theorem clk_advance (w : World) (p : Nat) (W now t : Int) (h : ClkO w p W now) (hb : -9223372036854775808 ≤ t ∧ t ≤ 9223372036854775807) :
    Calls Tryz.prog 22 #[.pointer (some ⟨p, 0, none⟩), .int .i64 t] w (ClkAdv w p W now t) := by
  have HC := Lib.hid (clk_check w p W now t h hb)
  have HO := Lib.hid h
  have c1 := h.box.cell (i := 1) rfl
  have f1 := h.box.free 1
  clear h
  obtain ⟨k, HK⟩ : ∃ k, Hid (clkE W now t = k) := ⟨_, rfl⟩
  rw [HK.out] at HC
  by_cases hk : k = 0
  · have t1 : (k == 0) = true := by rw [hk]; rfl
    have t2 : decide (k = 0) = true := decide_eq_true hk
    have HK0 := Lib.hid hk
    clear hk
    go_enter Tryz.func22, Tryz.ntmps22
    go_wp2_with (go_at_call 19; refine HC.out.mono ?_; rintro e w' ⟨rfl, rfl⟩)
    go_ret
    exact ⟨by rw [HK.out]; rfl, by rw [HK.out, if_pos HK0.out]; exact ⟨HO.out.box.set 1 _, HO.out.hw, hb⟩, Mod.setCell (Mod.refl (fun x => x = p) _) ⟨p, 1, none⟩ (fun _ => rfl) _⟩
  · have t1 : (k == 0) = false := by rw [beq_eq_false_iff_ne]; exact hk
    have t2 : decide (k = 0) = false := decide_eq_false hk
    have HK0 := Lib.hid hk
    clear hk
    go_enter Tryz.func22, Tryz.ntmps22
    go_wp2_with (go_at_call 19; refine HC.out.mono ?_; rintro e w' ⟨rfl, rfl⟩)
    go_ret
    exact ⟨by rw [HK.out]; rfl, by rw [HK.out, if_neg HK0.out]; exact HO.out, Mod.refl _ _⟩
structure ClkNew (w : World) (W : Int) (e : Ending) (w' : World) : Prop where
  bad : W < 1 → e = .returned (.tuple #[.pointer none, .int .i64 2])
  ok : 1 ≤ W → ∃ p, e = .returned (.tuple #[.pointer (some ⟨p, 0, none⟩), .int .i64 0]) ∧ ClkO w' p W 0 ∧ w.heap.size ≤ p
  bel : Below w.heap.size w w'
theorem clk_new (w : World) (W : Int) (hW : W ≤ 9223372036854775807) : Calls Tryz.prog 40 #[.int .i64 W] w (ClkNew w W) := by
  by_cases h : W < 1
  · have t1 : decide (W < 1) = true := decide_eq_true h
    have H := Lib.hid h
    clear h
    go_enter Tryz.func40, Tryz.ntmps40
    go_wp2_with fail
    go_ret2
    exact ⟨fun _ => rfl, fun h => absurd h (by have := H.out; omega), Below.refl _ _⟩
  · have t1 : decide (W < 1) = false := decide_eq_false h
    have H := Lib.hid h
    clear h
    go_enter Tryz.func40, Tryz.ntmps40
    go_wp2_with fail
    go_ret2
    exact ⟨fun h => absurd h (by have := H.out; omega), fun _ => ⟨w.heap.size, rfl, ⟨Blk.new w _ _, by have := H.out; omega, by omega⟩, Nat.le_refl _⟩, bel_alloc w _⟩
end Go.Proofs.YtlooaipipmiijaaGreat

namespace Go.Proofs.YtlooaipipmiijaaGreat
set_option linter.unusedVariables false
set_option linter.unusedSimpArgs false
open Go.RowKit
structure FoG where
  V : Nat
  S : Nat
  lp : Nat
  lg : Nat
  qb : Nat
  mb : Nat
  c : Nat
  Q : List Ent
  qg : HG
  E : Nat → Nat → Prop
  key : Nat → Int
  fm : Int → Option Value
  tr : Int
  col : Nat → Nat
structure FoM (w : World) (b : Nat) (f : FoG) : Prop where
  box : Blk w b 115 [.int .i64 (f.V : Int), .int .i64 (f.S : Int), .pointer (some ⟨f.lp, 0, none⟩), .pointer (some ⟨f.qb, 0, none⟩), .map (some f.mb), .int .i64 f.tr]
  lct : LcO w f.lp f.lg (f.S + f.V) f.E f.key
  que : HObj w f.qb f.S f.Q f.qg
  map : MapK .i64 w Tryz.prog 3 f.mb f.c f.fm
  k0 : f.col b = 0
  k1 : f.col f.lp = 1 ∧ f.col f.lg = 1
  k2 : ∀ k, f.qg.foot k → f.col k = 2
  k3 : f.col f.mb = 3
def FoG.foot (f : FoG) (b k : Nat) : Prop := k = b ∨ k = f.lp ∨ k = f.lg ∨ f.qg.foot k ∨ k = f.mb
section
variable {w w' : World} {b : Nat} {f : FoG} {j : Nat}
theorem FoM.foot_lt (h : FoM w b f) : ∀ k, f.foot b k → k < w.heap.size := by
  rintro k (rfl | rfl | rfl | e | rfl)
  · exact h.box.lt
  · exact h.lct.lt.1
  · exact h.lct.lt.2.1
  · exact h.que.rep.foot_lt k e
  · exact h.map.lt
theorem FoM.s0 (h : FoM w b f) : w.cell? ⟨b, 0, none⟩ = some (.int .i64 (f.V : Int)) := h.box.cell (i := 0) rfl
theorem FoM.s1 (h : FoM w b f) : w.cell? ⟨b, 1, none⟩ = some (.int .i64 (f.S : Int)) := h.box.cell (i := 1) rfl
theorem FoM.s2 (h : FoM w b f) : w.cell? ⟨b, 2, none⟩ = some (.pointer (some ⟨f.lp, 0, none⟩)) := h.box.cell (i := 2) rfl
theorem FoM.s3 (h : FoM w b f) : w.cell? ⟨b, 3, none⟩ = some (.pointer (some ⟨f.qb, 0, none⟩)) := h.box.cell (i := 3) rfl
theorem FoM.s4 (h : FoM w b f) : w.cell? ⟨b, 4, none⟩ = some (.map (some f.mb)) := h.box.cell (i := 4) rfl
theorem FoM.s5 (h : FoM w b f) : w.cell? ⟨b, 5, none⟩ = some (.int .i64 f.tr) := h.box.cell (i := 5) rfl
theorem FoM.below (h : FoM w b f) (m : Below w.heap.size w w') : FoM w' b f :=
  ⟨h.box.below m h.box.lt, h.lct.below m, h.que.below m, h.map.below m h.map.lt, h.k0, h.k1, h.k2, h.k3⟩
theorem FoM.mod {M : Nat → Prop} (h : FoM w b f) (m : Mod M w w') (hF : ∀ k, f.foot b k → ¬ M k) : FoM w' b f :=
  ⟨h.box.mod m (hF _ (.inl rfl)), h.lct.mod m (hF _ (.inr (.inl rfl))) (hF _ (.inr (.inr (.inl rfl)))), h.que.mod m (fun k hk => hF k (.inr (.inr (.inr (.inl hk))))), h.map.mod m (hF _ (.inr (.inr (.inr (.inr rfl))))), h.k0, h.k1, h.k2, h.k3⟩
structure FoS (b : Nat) (f : FoG) (w : World) (f' : FoG) (w' : World) : Prop where
  mem : FoM w' b f'
  mod : Mod (f.foot b) w w'
  ft : ∀ k, f'.foot b k → f.foot b k ∨ w.heap.size ≤ k
theorem FoS.refl (h : FoM w b f) : FoS b f w f w := ⟨h, Mod.refl _ _, fun _ h => .inl h⟩
theorem FoS.trans {f1 f2 : FoG} {w1 w2 : World} (h : FoS b f w f1 w1) (k : FoS b f1 w1 f2 w2) : FoS b f w f2 w2 := by
  have hs := h.mod.size
  refine ⟨k.mem, h.mod.trans k.mod fun x hx hf => ?_, fun x hx => ?_⟩
  · rcases h.ft x hf with a | a
    · exact a
    · omega
  · rcases k.ft x hx with a | a
    · exact h.ft x a
    · exact .inr (by omega)
theorem FoS.below {f1 : FoG} {w1 w2 : World} (h : FoS b f w f1 w1) (k : Below w1.heap.size w1 w2) : FoS b f w f1 w2 :=
  ⟨h.mem.below k, h.mod.trans (Mod.of_below (F := fun _ => False) k) (fun _ _ e => e.elim), h.ft⟩
theorem FoS.box {f1 : FoG} {w1 : World} (h : FoS b f w f1 w1) {x : Nat} {T : TypeId} {cs : List Value} (hb : Blk w x T cs) (hn : ¬ f.foot b x) : Blk w1 x T cs ∧ ¬ f1.foot b x :=
  ⟨hb.mod h.mod hn, fun e => by
    have := hb.lt
    rcases h.ft x e with a | a
    · exact hn a
    · omega⟩
theorem FoM.sLct (h : FoM w b f) {E' : Nat → Nat → Prop} {key' : Nat → Int} (m : Mod (fun x => x = f.lg ∨ x = f.lp) w w') (ho : LcO w' f.lp f.lg (f.S + f.V) E' key') : FoS b f w { f with E := E', key := key' } w' := by
  have nb : ∀ k, f.col k ≠ 1 → ¬ (k = f.lg ∨ k = f.lp) := fun k hk e => by
    rcases e with e | e
    · exact hk (by rw [e]; exact h.k1.2)
    · exact hk (by rw [e]; exact h.k1.1)
  exact ⟨⟨h.box.mod m (nb b (by rw [h.k0]; decide)), ho, h.que.mod m (fun k hk => nb k (by rw [h.k2 k hk]; decide)), h.map.mod m (nb _ (by rw [h.k3]; decide)), h.k0, h.k1, h.k2, h.k3⟩,
    m.wide (fun k e => e.elim (fun e => .inr (.inr (.inl e))) (fun e => .inr (.inl e))), fun k e => .inl e⟩
theorem FoM.sQue (h : FoM w b f) {Q' : List Ent} {qg' : HG} (m : Mod f.qg.foot w w') (ho : HObj w' f.qb f.S Q' qg') (hf : ∀ k, qg'.foot k → f.qg.foot k ∨ w.heap.size ≤ k) : FoS b f w { f with Q := Q', qg := qg', col := reco w f.col 2 } w' := by
  have nb : ∀ k, f.col k ≠ 2 → ¬ f.qg.foot k := fun k hk e => hk (h.k2 k e)
  refine ⟨⟨h.box.mod m (nb b (by rw [h.k0]; decide)), h.lct.mod m (nb _ (by rw [h.k1.1]; decide)) (nb _ (by rw [h.k1.2]; decide)), ho, h.map.mod m (nb _ (by rw [h.k3]; decide)), (reco_lt h.box.lt).trans h.k0, ⟨(reco_lt h.lct.lt.1).trans h.k1.1, (reco_lt h.lct.lt.2.1).trans h.k1.2⟩, fun k hk => ?_, (reco_lt h.map.lt).trans h.k3⟩,
    m.wide (fun k e => .inr (.inr (.inr (.inl e)))), fun k e => ?_⟩
  · rcases hf k hk with e | e
    · exact (reco_lt (h.que.rep.foot_lt k e)).trans (h.k2 k e)
    · exact reco_ge e
  · rcases e with e | e | e | e | e
    · exact .inl (.inl e)
    · exact .inl (.inr (.inl e))
    · exact .inl (.inr (.inr (.inl e)))
    · exact (hf k e).imp (fun e => .inr (.inr (.inr (.inl e)))) id
    · exact .inl (.inr (.inr (.inr (.inr e))))
theorem FoM.sMap (h : FoM w b f) {c' : Nat} {fm' : Int → Option Value} (m : Mod (fun x => x = f.mb) w w') (ho : MapK .i64 w' Tryz.prog 3 f.mb c' fm') : FoS b f w { f with c := c', fm := fm' } w' := by
  have nb : ∀ k, f.col k ≠ 3 → ¬ k = f.mb := fun k hk e => hk (by rw [e]; exact h.k3)
  exact ⟨⟨h.box.mod m (nb b (by rw [h.k0]; decide)), h.lct.mod m (nb _ (by rw [h.k1.1]; decide)) (nb _ (by rw [h.k1.2]; decide)), h.que.mod m (fun k hk => nb k (by rw [h.k2 k hk]; decide)), ho, h.k0, h.k1, h.k2, h.k3⟩,
    m.wide (fun k e => .inr (.inr (.inr (.inr e)))), fun k e => .inl e⟩
theorem FoM.sTr (h : FoM w b f) (n : Int) : FoS b f w { f with tr := n } (w.setCell ⟨b, 5, none⟩ (.int .i64 n)) := by
  have m : Mod (fun x => x = b) w (w.setCell ⟨b, 5, none⟩ (.int .i64 n)) := (Mod.refl (fun x => x = b) w).setCell ⟨b, 5, none⟩ (fun _ => rfl) _
  have nb : ∀ k, f.col k ≠ 0 → ¬ k = b := fun k hk e => hk (by rw [e]; exact h.k0)
  exact ⟨⟨h.box.set 5 _, h.lct.mod m (nb _ (by rw [h.k1.1]; decide)) (nb _ (by rw [h.k1.2]; decide)), h.que.mod m (fun k hk => nb k (by rw [h.k2 k hk]; decide)), h.map.mod m (nb _ (by rw [h.k3]; decide)), h.k0, h.k1, h.k2, h.k3⟩,
    m.wide (fun k e => .inl e), fun k e => .inl e⟩
end
set_option maxHeartbeats 400000 in
theorem fo_valid (b mb : Nat) (w : World) (h4 : w.cell? ⟨b, 4, none⟩ = some (.map (some mb))) :
    Calls Tryz.prog 55 #[.pointer (some ⟨b, 0, none⟩)] w (Ret (.bool true) w) := by
  have hq : ∀ W, (binOp .neq 113 (.map (some mb)) (.map none)).run Tryz.prog W = .ok (.bool true) W := fun W => run_neq_map_nil W _ _ _ (some mb) Tryz.underlying113
  go_enter Tryz.func55, Tryz.ntmps55
  go_wp2
  go_ret
  exact ⟨rfl, rfl⟩
set_option maxHeartbeats 1000000 in
theorem fo_has (b mb V v : Nat) (w : World) (h4 : w.cell? ⟨b, 4, none⟩ = some (.map (some mb))) (h0 : w.cell? ⟨b, 0, none⟩ = some (.int .i64 (V : Int))) (hv : v < V) :
    Calls Tryz.prog 63 #[.pointer (some ⟨b, 0, none⟩), .int .i64 (v : Int)] w (Ret (.bool true) w) := by
  have HV := Lib.hid (fo_valid b mb w h4)
  have t1 : decide ((0 : Int) ≤ (v : Int)) = true := decide_eq_true (by omega)
  have t2 : decide ((v : Int) < (V : Int)) = true := decide_eq_true (by omega)
  have t3 : decide (v < V) = true := decide_eq_true hv
  clear h4
  go_enter Tryz.func63, Tryz.ntmps63
  go_wp2_with (go_at_call 55; refine HV.out.mono ?_; rintro e w' ⟨rfl, rfl⟩)
  go_ret
  exact ⟨rfl, rfl⟩
end Go.Proofs.YtlooaipipmiijaaGreat

namespace Go.Proofs.YtlooaipipmiijaaGreat
set_option linter.unusedVariables false
set_option linter.unusedSimpArgs false
open Go.RowKit
def edV (a b : Nat) (x : Int) (t : Bool) : Value := .agg #[.int .i64 (a : Int), .int .i64 (b : Int), .int .i64 x, .bool t]
theorem Tryz.zeroEdge (w : World) : (zeroValue 117).run Tryz.prog w = .ok (.agg #[.int .i64 0, .int .i64 0, .int .i64 0, .bool false]) w := by kernel_rfl
def cutE (E : Nat → Nat → Prop) (x y : Nat) : Nat → Nat → Prop := fun u v => E u v ∧ ¬ (u = x ∧ v = y) ∧ ¬ (u = y ∧ v = x)
def lnkE (E : Nat → Nat → Prop) (x y : Nat) : Nat → Nat → Prop := fun u v => E u v ∨ (u = x ∧ v = y) ∨ (u = y ∧ v = x)
structure FoLo (w : World) (b : Nat) (f : FoG) (s x y : Nat) (ex : Int) (e : Ending) (w' : World) : Prop where
  val : e = .returned (.tuple #[])
  out : FoS b f w { f with E := cutE (cutE f.E (s + 1) (f.S + x + 1)) (s + 1) (f.S + y + 1), fm := (fun j => if j = (s : Int) then some (edV x y ex false) else f.fm j), tr := f.tr - 1 } w'
structure FlI (w : World) (b : Nat) (f : FoG) (z : Nat) (cs : List Value) (fk : FoG) (W : World) : Prop where
  st : FoS b f w fk W
  bz : Blk W z 117 cs
  nz : ¬ fk.foot b z
  zs : w.heap.size ≤ z
theorem FlI.start {w : World} {b : Nat} {f : FoG} (h : FoM w b f) (cs : List Value) : FlI w b f w.heap.size cs f (w.alloc (.cells cs.toArray 117)) :=
  ⟨(FoS.refl h).below (bel_alloc w _), Blk.new w _ cs, fun e => by have := h.foot_lt _ e; omega, Nat.le_refl _⟩
theorem FlI.below {w W W1 : World} {b z : Nat} {f fk : FoG} {cs : List Value} (h : FlI w b f z cs fk W) (hb : Below W.heap.size W W1) : FlI w b f z cs fk W1 := ⟨h.st.below hb, h.bz.below hb h.bz.lt, h.nz, h.zs⟩
theorem FlI.step {w W W1 : World} {b z : Nat} {f fk f2 : FoG} {cs : List Value} (h : FlI w b f z cs fk W) (k : FoS b fk W f2 W1) : FlI w b f z cs f2 W1 :=
  ⟨h.st.trans k, (k.box h.bz h.nz).1, (k.box h.bz h.nz).2, h.zs⟩
theorem FlI.set {w W : World} {b z : Nat} {f fk : FoG} {cs : List Value} (h : FlI w b f z cs fk W) (j : Nat) (v : Value) : FlI w b f z (cs.set j v) fk (W.setCell ⟨z, j, none⟩ v) := by
  have m : Mod (fun x => x = z) W (W.setCell ⟨z, j, none⟩ v) := (Mod.refl (fun x => x = z) W).setCell ⟨z, j, none⟩ (fun _ => rfl) v
  refine ⟨⟨h.st.mem.mod m (fun k hk e => h.nz (by rw [← show k = z from e]; exact hk)), h.st.mod.trans m (fun x hx e => by have := h.zs; have e' : x = z := e; omega), h.st.ft⟩, h.bz.set j v, h.nz, h.zs⟩
set_option maxHeartbeats 4000000 in
set_option maxRecDepth 100000 in
theorem fo_loosen (w : World) (b : Nat) (f : FoG) (h : FoM w b f) (s x y : Nat) (ex : Int) (hs : s < f.S) (hx : x < f.V) (hy : y < f.V) (hxy : x ≠ y) (hm : f.fm (s : Int) = some (edV x y ex true)) (e1 : f.E (s + 1) (f.S + x + 1)) (e2 : f.E (s + 1) (f.S + y + 1)) (hsz : f.S ≤ 65536 ∧ f.V ≤ 65536) (hc : f.c < maxLen) (ht : 0 ≤ f.tr ∧ f.tr ≤ 65536) :
    Calls Tryz.prog 57 #[.pointer (some ⟨b, 0, none⟩), .int .i64 (s : Int)] w (FoLo w b f s x y ex) := by
  have H := Lib.hid h
  have HM := Lib.hid hm
  have c1 := h.s1
  have c2 := h.s2
  have c4 := h.s4
  have hlk := h.map.look Tryz.underlying3 Tryz.underlying113 (Tryz.zeroEdge w) (i := (s : Int)) (wf_i64K (by omega) (by omega))
  rw [hm] at hlk
  have hlk2 : (Instr.lookup 113 (.map (some f.mb)) (.int .i64 (s : Int)) false).run Tryz.prog w = .ok (.agg #[.int .i64 (x : Int), .int .i64 (y : Int), .int .i64 ex, .bool true]) w := hlk
  clear hlk
  clear h hm
  go_enter Tryz.func57, Tryz.ntmps57
  go_upto_region 1 with fail
  have HI1 := Lib.hid (FlI.start H.out [.int .i64 (x : Int), .int .i64 (y : Int), .int .i64 ex, .bool true])
  generalize w.alloc (.cells #[.int .i64 (x : Int), .int .i64 (y : Int), .int .i64 ex, .bool true] 117) = w1 at *
  generalize w.heap.size = z at *
  have hwx : IntKind.i64.wrap ((f.S : Int) + (x : Int)) = ((f.S + x : Nat) : Int) := by rw [IntWalk.i64_in _ (by omega)]; omega
  have hwy : IntKind.i64.wrap ((f.S : Int) + (y : Int)) = ((f.S + y : Nat) : Int) := by rw [IntWalk.i64_in _ (by omega)]; omega
  have hwt : IntKind.i64.wrap (f.tr - 1) = f.tr - 1 := IntWalk.i64_in _ (by omega)
  clear hlk2 c1 c2 c4
  refine region_tailD 13 (by kernel_rfl) (by kernel_rfl) ?_
  intro w2 hw2
  have HI2 := Lib.hid (HI1.out.below hw2.self)
  clear hw2 HI1
  have c1 := HI2.out.st.mem.s1
  have c2 := HI2.out.st.mem.s2
  have z0 := HI2.out.bz.cell (i := 0) rfl
  have z1 := HI2.out.bz.cell (i := 1) rfl
  have HCT : Hid (Calls Tryz.prog 98 #[.pointer (some ⟨f.lp, 0, none⟩), .int .i64 (s : Int), .int .i64 ((f.S + x : Nat) : Int)] w2 (LcChg w2 f.lp f.lg (f.S + f.V) (cutE f.E (s + 1) (f.S + x + 1)) f.key)) := by
    obtain ⟨N, ed, h1, h2⟩ := HI2.out.st.mem.lct
    exact lc_cut w2 f.lp f.lg (f.S + f.V) f.E f.key N ed h1 h2 s (f.S + x) (by omega) (by omega) e1
  simp only [List.take_succ_cons, List.take_zero, List.drop_succ_cons, List.drop_zero]
  repeat still_step
  refine wpStill_nil ?_
  clear z0 z1 c1 c2
  go_wp2_with (go_at_call 98; refine HCT.out.mono ?_; rintro e w3 ⟨rfl, ho, hmd⟩; have HO := Lib.hid ho; have HMD := Lib.hid hmd; clear ho hmd)
  obtain ⟨N3, ed3, ho3, hl3⟩ := HO.out
  have HI3 := Lib.hid (HI2.out.step (HI2.out.st.mem.sLct HMD.out ⟨N3, ed3, ho3, hl3⟩))
  clear HI2 HO HMD HCT ho3 hl3
  refine region_tailD 13 (by kernel_rfl) (by kernel_rfl) ?_
  intro w4 hw4
  have HI4 := Lib.hid (HI3.out.below hw4.self)
  clear hw4 HI3
  have c1 := HI4.out.st.mem.s1
  have c2 := HI4.out.st.mem.s2
  have z0 := HI4.out.bz.cell (i := 0) rfl
  have z1 := HI4.out.bz.cell (i := 1) rfl
  have HCT : Hid (Calls Tryz.prog 98 #[.pointer (some ⟨f.lp, 0, none⟩), .int .i64 (s : Int), .int .i64 ((f.S + y : Nat) : Int)] w4 (LcChg w4 f.lp f.lg (f.S + f.V) (cutE (cutE f.E (s + 1) (f.S + x + 1)) (s + 1) (f.S + y + 1)) f.key)) := by
    obtain ⟨N, ed, h1, h2⟩ := HI4.out.st.mem.lct
    exact lc_cut w4 f.lp f.lg (f.S + f.V) (cutE f.E (s + 1) (f.S + x + 1)) f.key N ed h1 h2 s (f.S + y) (by omega) (by omega) ⟨e2, by omega, by omega⟩
  simp only [List.take_succ_cons, List.take_zero, List.drop_succ_cons, List.drop_zero]
  repeat still_step
  refine wpStill_nil ?_
  clear z0 z1 c1 c2
  have fz3 : Hid (Blk w4 z 117 [.int .i64 (x : Int), .int .i64 (y : Int), .int .i64 ex, .bool true]) := HI4.out.bz
  go_upto_region 3 with (go_at_call 98; refine HCT.out.mono ?_; rintro e w5 ⟨rfl, ho, hmd⟩; have HO := Lib.hid ho; have HMD := Lib.hid hmd; clear ho hmd)
  obtain ⟨N5, ed5, ho5, hl5⟩ := HO.out
  have HI5 := Lib.hid (HI4.out.step (HI4.out.st.mem.sLct HMD.out ⟨N5, ed5, ho5, hl5⟩))
  clear HI4 HO HMD HCT ho5 hl5 fz3
  have d3 := HI5.out.bz.cell (i := 3) rfl
  have f3 := HI5.out.bz.free 3
  go_upto_region 4 with fail
  have HI6 := Lib.hid (HI5.out.set 3 (.bool false))
  clear d3 f3 HI5
  generalize w5.setCell ⟨z, 3, none⟩ (.bool false) = w6 at *
  refine region_tailD 6 (by kernel_rfl) (by kernel_rfl) ?_
  intro w7 hw7
  have HI7 := Lib.hid (HI6.out.below hw7.self)
  clear hw7 HI6
  have c4 := HI7.out.st.mem.s4
  have z0 := HI7.out.bz.cell (i := 0) rfl
  have z1 := HI7.out.bz.cell (i := 1) rfl
  have z2 := HI7.out.bz.cell (i := 2) rfl
  have z3 := HI7.out.bz.cell (i := 3) rfl
  simp only [List.take_succ_cons, List.take_zero, List.drop_succ_cons, List.drop_zero]
  repeat still_step
  refine wpStill_nil ?_
  clear z0 z1 z2 z3 c4
  refine wpList_storeK rfl _ _ _ rfl Tryz.underlying3 Tryz.underlying113 rfl HI7.out.st.mem.map hc (i := (s : Int)) (wf_i64K (by omega) (by omega)) (c' := f.c) (by rw [HM.out]; rfl) (edV x y ex false) rfl rfl ?_
  intro w8 hmk hmd
  have HI8 := Lib.hid (HI7.out.step (HI7.out.st.mem.sMap hmd hmk))
  clear HI7 hmk hmd
  have c5 := HI8.out.st.mem.s5
  have fz := HI8.out.st.mem.box.free 5
  have HI9 := Lib.hid (HI8.out.step (HI8.out.st.mem.sTr (f.tr - 1)))
  clear HI8
  go_wp2_with fail
  go_end0
  exact ⟨rfl, HI9.out.st⟩
structure FoFa (w : World) (b : Nat) (f : FoG) (s x y : Nat) (ex : Int) (e : Ending) (w' : World) : Prop where
  val : e = .returned (.tuple #[])
  out : FoS b f w { f with E := lnkE (lnkE f.E (s + 1) (f.S + x + 1)) (s + 1) (f.S + y + 1), key := (fun u => if u = s + 1 then ex else f.key u), fm := (fun j => if j = (s : Int) then some (edV x y ex true) else f.fm j), tr := f.tr + 1 } w'
set_option maxHeartbeats 4000000 in
set_option maxRecDepth 100000 in
theorem fo_fasten (w : World) (b : Nat) (f : FoG) (h : FoM w b f) (s x y : Nat) (ex : Int) (hs : s < f.S) (hx : x < f.V) (hy : y < f.V) (hxy : x ≠ y) (hm : f.fm (s : Int) = some (edV x y ex false)) (e1 : ¬ Rch f.E (s + 1) (f.S + x + 1)) (e2 : ¬ Rch (lnkE f.E (s + 1) (f.S + x + 1)) (s + 1) (f.S + y + 1)) (hsz : f.S ≤ 65536 ∧ f.V ≤ 65536) (hc : f.c < maxLen) (ht : 0 ≤ f.tr ∧ f.tr ≤ 65536) :
    Calls Tryz.prog 95 #[.pointer (some ⟨b, 0, none⟩), .int .i64 (s : Int)] w (FoFa w b f s x y ex) := by
  have H := Lib.hid h
  have HM := Lib.hid hm
  have c1 := h.s1
  have c2 := h.s2
  have c4 := h.s4
  have hlk := h.map.look Tryz.underlying3 Tryz.underlying113 (Tryz.zeroEdge w) (i := (s : Int)) (wf_i64K (by omega) (by omega))
  rw [hm] at hlk
  have hlk2 : (Instr.lookup 113 (.map (some f.mb)) (.int .i64 (s : Int)) false).run Tryz.prog w = .ok (.agg #[.int .i64 (x : Int), .int .i64 (y : Int), .int .i64 ex, .bool false]) w := hlk
  clear hlk
  clear h hm
  go_enter Tryz.func95, Tryz.ntmps95
  go_upto_region 1 with fail
  have HI1 := Lib.hid (FlI.start H.out [.int .i64 (x : Int), .int .i64 (y : Int), .int .i64 ex, .bool false])
  generalize w.alloc (.cells #[.int .i64 (x : Int), .int .i64 (y : Int), .int .i64 ex, .bool false] 117) = w1 at *
  generalize w.heap.size = z at *
  have hwx : IntKind.i64.wrap ((f.S : Int) + (x : Int)) = ((f.S + x : Nat) : Int) := by rw [IntWalk.i64_in _ (by omega)]; omega
  have hwy : IntKind.i64.wrap ((f.S : Int) + (y : Int)) = ((f.S + y : Nat) : Int) := by rw [IntWalk.i64_in _ (by omega)]; omega
  have hwt : IntKind.i64.wrap (f.tr + 1) = f.tr + 1 := IntWalk.i64_in _ (by omega)
  clear hlk2 c1 c2 c4
  refine region_tailD 8 (by kernel_rfl) (by kernel_rfl) ?_
  intro wa hwa
  have HIa := Lib.hid (HI1.out.below hwa.self)
  clear hwa HI1
  have c2 := HIa.out.st.mem.s2
  have z2 := HIa.out.bz.cell (i := 2) rfl
  have HST : Hid (∃ ed, Calls Tryz.prog 83 #[.pointer (some ⟨f.lp, 0, none⟩), .int .i64 (s : Int), .int .i64 ex] wa (LcInt wa f.lp f.lg (f.S + f.V) f.E (fun u => if u = s + 1 then ex else f.key u) ed (.int .i64 0))) := by
    obtain ⟨N, ed, h1, h2⟩ := HIa.out.st.mem.lct
    exact ⟨ed, lc_set wa f.lp f.lg (f.S + f.V) f.E f.key N ed h1 h2 s (by omega) ex⟩
  obtain ⟨edS, hst⟩ := HST.out
  have HST2 := Lib.hid hst
  clear HST hst
  simp only [List.take_succ_cons, List.take_zero, List.drop_succ_cons, List.drop_zero]
  repeat still_step
  refine wpStill_nil ?_
  clear z2 c2
  go_upto_region 2 with (go_at_call 83; refine HST2.out.mono ?_; rintro e wb ⟨rfl, ho, hmd⟩; have HO := Lib.hid ho; have HMD := Lib.hid hmd; clear ho hmd)
  obtain ⟨Nb, hob, hlb⟩ := HO.out
  have HI1 := Lib.hid (HIa.out.step (HIa.out.st.mem.sLct (HMD.out.mono (fun k _ e => .inl e)) ⟨Nb, edS, hob, hlb⟩))
  clear HIa HO HMD HST2 hob hlb
  refine region_tailD 13 (by kernel_rfl) (by kernel_rfl) ?_
  intro w2 hw2
  have HI2 := Lib.hid (HI1.out.below hw2.self)
  clear hw2 HI1
  have c1 := HI2.out.st.mem.s1
  have c2 := HI2.out.st.mem.s2
  have z0 := HI2.out.bz.cell (i := 0) rfl
  have z1 := HI2.out.bz.cell (i := 1) rfl
  have HCT : Hid (Calls Tryz.prog 128 #[.pointer (some ⟨f.lp, 0, none⟩), .int .i64 (s : Int), .int .i64 ((f.S + x : Nat) : Int)] w2 (LcChg w2 f.lp f.lg (f.S + f.V) (lnkE f.E (s + 1) (f.S + x + 1)) (fun u => if u = s + 1 then ex else f.key u))) := by
    obtain ⟨N, ed, h1, h2⟩ := HI2.out.st.mem.lct
    exact lc_link w2 f.lp f.lg (f.S + f.V) f.E (fun u => if u = s + 1 then ex else f.key u) N ed h1 h2 s (f.S + x) (by omega) (by omega) e1
  simp only [List.take_succ_cons, List.take_zero, List.drop_succ_cons, List.drop_zero]
  repeat still_step
  refine wpStill_nil ?_
  clear z0 z1 c1 c2
  go_wp2_with (go_at_call 128; refine HCT.out.mono ?_; rintro e w3 ⟨rfl, ho, hmd⟩; have HO := Lib.hid ho; have HMD := Lib.hid hmd; clear ho hmd)
  obtain ⟨N3, ed3, ho3, hl3⟩ := HO.out
  have HI3 := Lib.hid (HI2.out.step (HI2.out.st.mem.sLct HMD.out ⟨N3, ed3, ho3, hl3⟩))
  clear HI2 HO HMD HCT ho3 hl3
  refine region_tailD 13 (by kernel_rfl) (by kernel_rfl) ?_
  intro w4 hw4
  have HI4 := Lib.hid (HI3.out.below hw4.self)
  clear hw4 HI3
  have c1 := HI4.out.st.mem.s1
  have c2 := HI4.out.st.mem.s2
  have z0 := HI4.out.bz.cell (i := 0) rfl
  have z1 := HI4.out.bz.cell (i := 1) rfl
  have HCT : Hid (Calls Tryz.prog 128 #[.pointer (some ⟨f.lp, 0, none⟩), .int .i64 (s : Int), .int .i64 ((f.S + y : Nat) : Int)] w4 (LcChg w4 f.lp f.lg (f.S + f.V) (lnkE (lnkE f.E (s + 1) (f.S + x + 1)) (s + 1) (f.S + y + 1)) (fun u => if u = s + 1 then ex else f.key u))) := by
    obtain ⟨N, ed, h1, h2⟩ := HI4.out.st.mem.lct
    exact lc_link w4 f.lp f.lg (f.S + f.V) (lnkE f.E (s + 1) (f.S + x + 1)) (fun u => if u = s + 1 then ex else f.key u) N ed h1 h2 s (f.S + y) (by omega) (by omega) e2
  simp only [List.take_succ_cons, List.take_zero, List.drop_succ_cons, List.drop_zero]
  repeat still_step
  refine wpStill_nil ?_
  clear z0 z1 c1 c2
  have fz3 : Hid (Blk w4 z 117 [.int .i64 (x : Int), .int .i64 (y : Int), .int .i64 ex, .bool false]) := HI4.out.bz
  go_upto_region 4 with (go_at_call 128; refine HCT.out.mono ?_; rintro e w5 ⟨rfl, ho, hmd⟩; have HO := Lib.hid ho; have HMD := Lib.hid hmd; clear ho hmd)
  obtain ⟨N5, ed5, ho5, hl5⟩ := HO.out
  have HI5 := Lib.hid (HI4.out.step (HI4.out.st.mem.sLct HMD.out ⟨N5, ed5, ho5, hl5⟩))
  clear HI4 HO HMD HCT ho5 hl5 fz3
  have d3 := HI5.out.bz.cell (i := 3) rfl
  have f3 := HI5.out.bz.free 3
  go_upto_region 5 with fail
  have HI6 := Lib.hid (HI5.out.set 3 (.bool true))
  clear d3 f3 HI5
  generalize w5.setCell ⟨z, 3, none⟩ (.bool true) = w6 at *
  refine region_tailD 6 (by kernel_rfl) (by kernel_rfl) ?_
  intro w7 hw7
  have HI7 := Lib.hid (HI6.out.below hw7.self)
  clear hw7 HI6
  have c4 := HI7.out.st.mem.s4
  have z0 := HI7.out.bz.cell (i := 0) rfl
  have z1 := HI7.out.bz.cell (i := 1) rfl
  have z2 := HI7.out.bz.cell (i := 2) rfl
  have z3 := HI7.out.bz.cell (i := 3) rfl
  simp only [List.take_succ_cons, List.take_zero, List.drop_succ_cons, List.drop_zero]
  repeat still_step
  refine wpStill_nil ?_
  clear z0 z1 z2 z3 c4
  refine wpList_storeK rfl _ _ _ rfl Tryz.underlying3 Tryz.underlying113 rfl HI7.out.st.mem.map hc (i := (s : Int)) (wf_i64K (by omega) (by omega)) (c' := f.c) (by rw [HM.out]; rfl) (edV x y ex true) rfl rfl ?_
  intro w8 hmk hmd
  have HI8 := Lib.hid (HI7.out.step (HI7.out.st.mem.sMap hmd hmk))
  clear HI7 hmk hmd
  have c5 := HI8.out.st.mem.s5
  have fz := HI8.out.st.mem.box.free 5
  have HI9 := Lib.hid (HI8.out.step (HI8.out.st.mem.sTr (f.tr + 1)))
  clear HI8
  go_wp2_with fail
  go_end0
  exact ⟨rfl, HI9.out.st⟩
end Go.Proofs.YtlooaipipmiijaaGreat
