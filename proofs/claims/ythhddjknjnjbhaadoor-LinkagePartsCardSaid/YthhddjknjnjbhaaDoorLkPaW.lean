/- The walk of LinkageParts. -/
import Derived.Test.YthhddjknjnjbhaaDoorLkPaV
namespace Go.Proofs.YthhddjknjnjbhaaDoor
set_option linter.unusedVariables false
set_option linter.unusedSimpArgs false
open Go.RowKit

set_option maxHeartbeats 8000000 in
set_option maxRecDepth 100000 in
theorem parts_law (n : Int) (hn : 0 ≤ n ∧ n ≤ 255) (ao : Option Addr) (len cap b off : Nat) (z : List Int) (po : Option Addr) (plen pcap pb poff : Nat) (y : List Int) (w : World) (hM : Mets w)
    (hz : InRow .u64 w ao len b off z) (hlen : len ≤ 9223372036854775807) (hu : ∀ x ∈ z, 0 ≤ x ∧ x < 18446744073709551616)
    (hy : InRow .u8 w po plen pb poff y) (hplen : plen ≤ 9223372036854775807) (hyu : ∀ x ∈ y, 0 ≤ x ∧ x ≤ 255) :
    Calls Tryd.prog 7 #[.int .u8 n, .slice ao len cap, .slice po plen pcap] w (RetB (.bool true) w) := by
  have HZ := Lib.hid hz
  have HU := Lib.hid hu
  have HY := Lib.hid hy
  have HYU := Lib.hid hyu
  have HMe := Lib.hid hM
  obtain ⟨n0, rfl⟩ := Int.eq_ofNat_of_zero_le hn.1
  have hn0 : n0 ≤ 255 := by omega
  have r1 : Int.tmod (n0 : Int) 15 = ((n0 % 15 : Nat) : Int) := mod_nat n0 15 (by omega)
  have hk : n0 % 15 < 15 := Nat.mod_lt _ (by omega)
  obtain ⟨k, HK⟩ : ∃ k, Hid (n0 % 15 = k) := ⟨_, rfl⟩
  rw [HK.out] at r1 hk
  clear hn hM hz hu hy hyu
  go_enter Tryd.func7, Tryd.ntmps7
  go_wp2_with fail
  with_reducible refine (points_ok w k (by omega) ao len cap b off z HZ.out hlen HU.out).mono ?_
  rintro e w1 ⟨rfl, hblk, hb1⟩
  have HD1 := Lib.hid (pts_row hblk)
  have HB1 := Lib.hid hb1
  have HCK := Lib.hid (pts_check (n := k) (by omega) z)
  clear hblk hb1 HZ HU
  generalize ptsL k z = d at *
  obtain ⟨db, HDB⟩ : ∃ db, Hid (w.heap.size = db) := ⟨_, rfl⟩
  simp only [HDB.out] at HD1 ⊢
  obtain ⟨nn, HNN⟩ : ∃ nn, Hid (k * k = nn) := ⟨_, rfl⟩
  have hnn : k * k ≤ 196 := Nat.mul_le_mul (show k ≤ 14 by omega) (show k ≤ 14 by omega)
  rw [HNN.out] at HD1 hnn ⊢
  go_wp2_with (refine wpList_allocB _ Tryd.zeroSets ?_; intro w2 B2 hb2)
  have HS2 : Hid (∃ V, SetsAt w2 w1.heap.size V fun s => setP y s 0) := by
    refine ⟨fun _ => .slice none 0 0, B2, fun s _ => World.ownsRow_nil w2 _ _ _, fun s _ g hg => by cases hg⟩
  have HD2 := Lib.hid (HD1.out.below hb2)
  have HB2 := Lib.hid (bel_then HB1.out hb2)
  have hsb : w.heap.size ≤ w1.heap.size := HB1.out.size
  have hdsb : 0 < nn → db < w1.heap.size := fun h => HD1.out.lt h
  clear B2 hb2 HD1 HB1
  obtain ⟨sb, HSB⟩ : ∃ sb, Hid (w1.heap.size = sb) := ⟨_, rfl⟩
  simp only [HSB.out] at HS2 hsb hdsb ⊢
  have HDSB := Lib.hid hdsb
  clear hdsb
  go_loopw [10] (fun s wr => ∃ t : Nat, t ≤ k ∧ s = .int .i64 t ∧ (∃ V, SetsAt wr sb V fun s => setP y s t) ∧ Mod (fun x => x = sb) w2 wr) (fun s _ => k - (intOf s).toNat)
  case atStart => exact ⟨0, Nat.zero_le _, rfl, HS2.out, Mod.refl _ _⟩
  case round =>
    obtain ⟨t, ht, rfl, hs, hmd⟩ := hrel
    have HS := Lib.hid hs
    have HMD := Lib.hid hmd
    clear hs hmd
    by_cases htk : t < k
    · by_cases hpl : plen = 0
      · have t1 : decide (0 < plen) = false := by simp [hpl]
        have hp0 : pickP y t = 0 := by unfold pickP; rw [if_pos (by rw [HY.out.size]; exact hpl)]
        have HP0 := Lib.hid hp0
        clear hpl hp0
        have hp3 := pickP_lt y t
        have hr3 : (pickP y t : Int) < 3 := by omega
        obtain ⟨V, hV⟩ := HS.out
        have cS := hV.cell hp3
        have fS := hV.blk.free (pickP y t)
        have hlt := hV.blk.lt
        have hVl : (zI (setP y (pickP y t) t)).length ≤ 14 := by rw [zI_length]; have := setP_len y (pickP y t) t; omega
        have HNEXT : Hid (∀ (w' : World) (v : Value), Below wr.heap.size wr w' → w'.ownsRow 0 3 1 v (zI (t :: setP y (pickP y t) t)).length ((zI (t :: setP y (pickP y t) t)).map fun x => .int .i64 x) → (∀ g, v.ownBlock = some g → wr.heap.size ≤ g) → ∃ V', SetsAt (w'.setCell ⟨sb, pickP y t, none⟩ v) sb V' fun s => setP y s (t + 1)) := fun w' v h1 h2 h3 => hV.next h1 h2 h3
        have hrow := hV.row (pickP y t) hp3
        have HROW := Lib.hid (owns_mod hrow (Mod.of_below (F := fun _ => False) ((Below.refl wr.heap.size wr).alloc (Nat.le_refl _) (.cells #[.int .i64 t] 3))) (fun _ _ h => h))
        have hcons : zI (t :: setP y (pickP y t) t) = (t : Int) :: zI (setP y (pickP y t) t) := rfl
        rw [hcons] at HNEXT
        clear hV hrow hcons
        rw [HP0.out] at cS fS hVl HNEXT HROW
        clear hp3 hr3 HP0
        generalize V 0 = u at *
        generalize zI (setP y 0 t) = zs at *
        have HONE := Lib.hid (owns_one wr 3 (.int .i64 t))
        have hbA : Below wr.heap.size wr (wr.alloc (.cells #[.int .i64 t] 3)) := (Below.refl _ _).alloc (Nat.le_refl _) _
        have HBA := Lib.hid hbA
        clear hbA
        go_wp2_with (at_builtin; apply keepIt)
        apply Lib.hid
        refine wpList_appendR rfl 3 (.int .i64 0) 1 8 Tryd.underlying31 Tryd.infoInt rfl (by decide) _ 1 [.int .i64 t] rfl HONE.out _ zs.length _ rfl HROW.out (one_ints _) (by unfold maxLen; omega) (by omega) ?_
        intro v5 w8 ho8 hg8 hk8
        obtain ⟨o5, c5, rfl⟩ := owns_slice ho8
        have HB8 := Lib.hid (bel_grown HBA.out hg8 (fun k hk => by cases hk; exact Nat.le_refl _))
        have HN8 : Hid (∃ V', SetsAt (w8.setCell ⟨sb, 0, none⟩ (.slice o5 (1 + zs.length) c5)) sb V' fun s => setP y s (t + 1)) := by
          refine HNEXT.out w8 _ HB8.out ?_ (fun g hg => ?_)
          · rw [show ((t : Int) :: zs).length = 1 + zs.length from by simp [Nat.add_comm]]; exact ho8
          · rcases hk8 g hg with h1 | h1
            · cases h1; exact Nat.le_refl _
            · have := HBA.out.size; omega
        have cS8 := (HB8.out.cell (p := ⟨sb, 0, none⟩) hlt).trans cS
        have fS8 := (HB8.out.frozen (p := ⟨sb, 0, none⟩) hlt).trans fS
        clear ho8 hg8 hk8 HBA HONE HROW HNEXT cS fS
        go_wp2_with fail
        go_roundw
        case rel => exact ⟨t + 1, by omega, by go_num, HN8.out, (HMD.out.trans (Mod.of_below (F := fun _ => False) HB8.out) (fun _ _ h => h.elim)).setCell _ (fun _ => rfl) _⟩
        case measure => simp [intOf]; omega
      · have t1 : decide (0 < plen) = true := by simp; omega
        have t2 : ((plen : Int) == 0) = false := by simp; omega
        have r2 : Int.tmod (t : Int) (plen : Int) = ((t % plen : Nat) : Int) := mod_nat t plen (by omega)
        have hlt2 : t % plen < plen := Nat.mod_lt _ (by omega)
        have cy := ((HY.out.below HB2.out).mod HMD.out (fun h0 => by have := HY.out.lt h0; omega)).cell (t % plen) hlt2
        obtain rfl := HY.out.adr (by omega)
        have hyx := HYU.out (y.getD (t % plen) 0) (getD_mem (by rw [HY.out.size]; exact hlt2))
        have hpk : pickP y t = (y.getD (t % plen) 0).toNat % 3 := by unfold pickP; rw [if_neg (by rw [HY.out.size]; exact hpl), HY.out.size]
        have r3 : Int.tmod (y.getD (t % plen) 0) 3 = ((pickP y t : Nat) : Int) := by
          rw [hpk, Int.tmod_eq_emod_of_nonneg hyx.1]
          have : (y.getD (t % plen) 0) = (((y.getD (t % plen) 0).toNat : Nat) : Int) := by omega
          rw [this]
          simp
        clear hpk
        generalize y.getD (t % plen) 0 = yx at *
        generalize t % plen = ti at *
        obtain ⟨hyx0, hyx1⟩ := hyx
        have hti : (ti : Int) < (plen : Int) := by omega
        have hp3 := pickP_lt y t
        have hr3 : (pickP y t : Int) < 3 := by omega
        obtain ⟨V, hV⟩ := HS.out
        have cS := hV.cell hp3
        have fS := hV.blk.free (pickP y t)
        have hlt := hV.blk.lt
        have hVl : (zI (setP y (pickP y t) t)).length ≤ 14 := by rw [zI_length]; have := setP_len y (pickP y t) t; omega
        have HNEXT : Hid (∀ (w' : World) (v : Value), Below wr.heap.size wr w' → w'.ownsRow 0 3 1 v (zI (t :: setP y (pickP y t) t)).length ((zI (t :: setP y (pickP y t) t)).map fun x => .int .i64 x) → (∀ g, v.ownBlock = some g → wr.heap.size ≤ g) → ∃ V', SetsAt (w'.setCell ⟨sb, pickP y t, none⟩ v) sb V' fun s => setP y s (t + 1)) := fun w' v h1 h2 h3 => hV.next h1 h2 h3
        have hrow := hV.row (pickP y t) hp3
        have HROW := Lib.hid (owns_mod hrow (Mod.of_below (F := fun _ => False) ((Below.refl wr.heap.size wr).alloc (Nat.le_refl _) (.cells #[.int .i64 t] 3))) (fun _ _ h => h))
        have hcons : zI (t :: setP y (pickP y t) t) = (t : Int) :: zI (setP y (pickP y t) t) := rfl
        rw [hcons] at HNEXT
        clear hV hrow hcons
        generalize V (pickP y t) = u at *
        generalize zI (setP y (pickP y t) t) = zs at *
        generalize pickP y t = pk at *
        have HONE := Lib.hid (owns_one wr 3 (.int .i64 t))
        have hbA : Below wr.heap.size wr (wr.alloc (.cells #[.int .i64 t] 3)) := (Below.refl _ _).alloc (Nat.le_refl _) _
        have HBA := Lib.hid hbA
        clear hbA
        go_wp2_with (at_builtin; apply keepIt)
        apply Lib.hid
        refine wpList_appendR rfl 3 (.int .i64 0) 1 8 Tryd.underlying31 Tryd.infoInt rfl (by decide) _ 1 [.int .i64 t] rfl HONE.out _ zs.length _ rfl HROW.out (one_ints _) (by unfold maxLen; omega) (by omega) ?_
        intro v5 w8 ho8 hg8 hk8
        obtain ⟨o5, c5, rfl⟩ := owns_slice ho8
        have HB8 := Lib.hid (bel_grown HBA.out hg8 (fun k hk => by cases hk; exact Nat.le_refl _))
        have HN8 : Hid (∃ V', SetsAt (w8.setCell ⟨sb, pk, none⟩ (.slice o5 (1 + zs.length) c5)) sb V' fun s => setP y s (t + 1)) := by
          refine HNEXT.out w8 _ HB8.out ?_ (fun g hg => ?_)
          · rw [show ((t : Int) :: zs).length = 1 + zs.length from by simp [Nat.add_comm]]; exact ho8
          · rcases hk8 g hg with h1 | h1
            · cases h1; exact Nat.le_refl _
            · have := HBA.out.size; omega
        have cS8 := (HB8.out.cell (p := ⟨sb, pk, none⟩) hlt).trans cS
        have fS8 := (HB8.out.frozen (p := ⟨sb, pk, none⟩) hlt).trans fS
        clear ho8 hg8 hk8 HBA HONE HROW HNEXT cS fS
        go_wp2_with fail
        go_roundw
        case rel => exact ⟨t + 1, by omega, by go_num, HN8.out, (HMD.out.trans (Mod.of_below (F := fun _ => False) HB8.out) (fun _ _ h => h.elim)).setCell _ (fun _ => rfl) _⟩
        case measure => simp [intOf]; omega
    · have htr : t = k := by omega
      have htr2 : ¬ (t : Int) < (k : Int) := by omega
      obtain ⟨V, hV⟩ := HS.out
      rw [htr] at hV
      have HV := Lib.hid hV
      have cS0 := hV.cell (s := 0) (by omega)
      have cS1 := hV.cell (s := 1) (by omega)
      have cS2 := hV.cell (s := 2) (by omega)
      have HB3 : Hid (Below w.heap.size w wr) := HB2.out.trans (HMD.out.below HB2.out.size (fun x hx => by rw [hx]; exact hsb))
      have HD3 : Hid (InRow .i64 wr (some ⟨db, 0, none⟩) nn db 0 d) := HD2.out.mod HMD.out (fun h0 => by have := HDSB.out h0; omega)
      have hme := HMe.out.below HB3.out HMe.out.lt
      obtain ⟨o0, p0, e0⟩ := owns_slice (hV.row 0 (by omega))
      obtain ⟨o1, p1, e1⟩ := owns_slice (hV.row 1 (by omega))
      obtain ⟨o2, p2, e2⟩ := owns_slice (hV.row 2 (by omega))
      have HR0 : Hid (wr.ownsRow 0 3 1 (.slice o0 (zI (setP y 0 k)).length p0) (zI (setP y 0 k)).length ((zI (setP y 0 k)).map fun x => .int .i64 x)) := by rw [← e0]; exact hV.row 0 (by omega)
      have HR1 : Hid (wr.ownsRow 0 3 1 (.slice o1 (zI (setP y 1 k)).length p1) (zI (setP y 1 k)).length ((zI (setP y 1 k)).map fun x => .int .i64 x)) := by rw [← e1]; exact hV.row 1 (by omega)
      have HR2 : Hid (wr.ownsRow 0 3 1 (.slice o2 (zI (setP y 2 k)).length p2) (zI (setP y 2 k)).length ((zI (setP y 2 k)).map fun x => .int .i64 x)) := by rw [← e2]; exact hV.row 2 (by omega)
      rw [e0] at cS0
      rw [e1] at cS1
      rw [e2] at cS2
      have m0 := hme.c0
      have m1 := hme.c1
      have m2 := hme.c2
      have hA : ∀ x ∈ setP y 0 k, x < k := fun x hx => (setP_mem hx).1
      have hB : ∀ x ∈ setP y 1 k, x < k := fun x hx => (setP_mem hx).1
      have hC : ∀ x ∈ setP y 2 k, x < k := fun x hx => (setP_mem hx).1
      have nAC := setP_apart y (show 0 ≠ 2 by omega) k
      have nBC := setP_apart y (show 1 ≠ 2 by omega) k
      have nBA := setP_apart y (show 1 ≠ 0 by omega) k
      have lA := setP_len y 0 k
      have lB := setP_len y 1 k
      have lC := setP_len y 2 k
      have HFA := Lib.hid hA
      have HFB := Lib.hid hB
      have HFC := Lib.hid hC
      have HAC := Lib.hid nAC
      have HBC := Lib.hid nBC
      have HBA := Lib.hid nBA
      clear htr hme hV e0 e1 e2 hA hB hC nAC nBC nBA HS HMD
      generalize setP y 0 k = A at *
      generalize setP y 1 k = B at *
      generalize setP y 2 k = C at *
      go_wp2_with fail
      go_quiet (fail)
      go_wp2_with fail
      have hq0 : Below wr.heap.size wr (wr.drewN nq) := bel_drewN (Below.refl _ _) _
      have HBM := Lib.hid (bel_then HB3.out hq0)
      have HDM := Lib.hid (HD3.out.below hq0)
      have HR0' : Hid ((wr.drewN nq).ownsRow 0 3 1 (.slice o0 (zI A).length p0) (zI A).length ((zI A).map fun x => .int .i64 x)) := HR0.out
      have HR1' : Hid ((wr.drewN nq).ownsRow 0 3 1 (.slice o1 (zI B).length p1) (zI B).length ((zI B).map fun x => .int .i64 x)) := HR1.out
      have HR2' : Hid ((wr.drewN nq).ownsRow 0 3 1 (.slice o2 (zI C).length p2) (zI C).length ((zI C).map fun x => .int .i64 x)) := HR2.out
      have lA' : (zI A).length ≤ 14 := by rw [zI_length]; omega
      have lB' : (zI B).length ≤ 14 := by rw [zI_length]; omega
      have lC' : (zI C).length ≤ 14 := by rw [zI_length]; omega
      clear m0 m1 m2 cS0 cS1 cS2 HR0 HR1 HR2 HB3 HD3 hq0 HV lA lB lC HB2 HD2 HS2
      generalize wr.drewN nq = W0 at *
      obtain ⟨la, HLA⟩ : ∃ la, Hid ((zI A).length = la) := ⟨_, rfl⟩
      obtain ⟨lb, HLB⟩ : ∃ lb, Hid ((zI B).length = lb) := ⟨_, rfl⟩
      obtain ⟨lc, HLC⟩ : ∃ lc, Hid ((zI C).length = lc) := ⟨_, rfl⟩
      simp only [HLA.out, HLB.out, HLC.out] at HR0' HR1' HR2' lA' lB' lC' ⊢
      go_loopw [69] (fun s wx => ∃ i : Nat, i ≤ 3 ∧ s = .int .i64 i ∧ Below W0.heap.size W0 wx) (fun s _ => 3 - (intOf s).toNat)
      case atStart => exact ⟨0, Nat.zero_le _, rfl, Below.refl _ _⟩
      case round =>
        obtain ⟨q, hq, rfl, hb⟩ := hrel
        have HBq := Lib.hid hb
        clear hb
        by_cases hq3 : q < 3
        · obtain ⟨m, hm, hidx⟩ := met_index hq3
          have HM := Lib.hid hm
          clear hm
          have hmq := Mod.of_below (F := fun _ => False) HBq.out
          have HD5 := Lib.hid (HDM.out.below HBq.out)
          have HA5 := Lib.hid (owns_mod HR0'.out hmq (fun _ _ h => h))
          have HB5 := Lib.hid (owns_mod HR1'.out hmq (fun _ _ h => h))
          have HC5 := Lib.hid (owns_mod HR2'.out hmq (fun _ _ h => h))
          clear hmq
          have hb7 : Below wr.heap.size wr (wr.alloc (.cells #[] 3)) := (Below.refl _ _).alloc (Nat.le_refl _) _
          have HB7 := Lib.hid hb7
          have hm7 := Mod.of_below (F := fun _ => False) hb7
          have R7 := Lib.hid (owns_mod HB5.out hm7 (fun _ _ h => h))
          have E7 := Lib.hid (owns_empty wr 3)
          clear hb7 hm7
          go_wp2_with (at_builtin; apply keepIt)
          clear hidx
          apply Lib.hid
          refine wpList_appendR rfl 3 (.int .i64 0) 1 8 Tryd.underlying31 Tryd.infoInt rfl (by decide) _ 0 [] rfl E7.out _ lb _ rfl R7.out (one_ints _) (by unfold maxLen; omega) (by omega) ?_
          intro v5 w8 ho8 hg8 hk8
          rw [Nat.zero_add, List.nil_append] at ho8
          have X8 := Lib.hid ho8
          have HB8 := Lib.hid (bel_grown HB7.out hg8 (fun k hk => by cases hk; exact Nat.le_refl _))
          have HK8 : Hid (∀ k, v5.ownBlock = some k → wr.heap.size ≤ k) := fun k hk => by
            have := HB7.out.size
            rcases hk8 k hk with h1 | h1
            · cases h1; exact Nat.le_refl _
            · omega
          have Q8 := Lib.hid (owns_mod HA5.out (Mod.of_below (F := fun _ => False) HB8.out) (fun _ _ h => h))
          clear ho8 hg8 hk8 HB7 R7 E7
          go_wp2_with (at_builtin; apply keepIt)
          apply Lib.hid
          refine wpList_appendR rfl 3 (.int .i64 0) 1 8 Tryd.underlying31 Tryd.infoInt rfl (by decide) _ lb _ rfl X8.out _ la _ rfl Q8.out (one_ints _) (by unfold maxLen; omega) (by omega) ?_
          intro v6 w9 ho9 hg9 hk9
          have hb9 := bel_grown HB8.out hg9 HK8.out
          have HB9 := Lib.hid hb9
          obtain ⟨o6, c6, rfl⟩ := owns_slice ho9
          rw [← List.map_append, ← zI_append] at ho9
          have hll : (zI (B ++ A)).length = lb + la := by rw [zI_append, List.length_append, HLA.out, HLB.out]
          obtain ⟨bU, hU⟩ := owns_in (by rw [hll]; exact ho9) (z := zI (B ++ A))
          have hm9 := Mod.of_below (F := fun _ => False) hb9
          obtain ⟨bA, hAr⟩ := owns_in (z := zI A) (by rw [HLA.out]; exact owns_mod HA5.out hm9 (fun _ _ h => h))
          obtain ⟨bB, hBr⟩ := owns_in (z := zI B) (by rw [HLB.out]; exact owns_mod HB5.out hm9 (fun _ _ h => h))
          obtain ⟨bC, hCr⟩ := owns_in (z := zI C) (by rw [HLC.out]; exact owns_mod HC5.out hm9 (fun _ _ h => h))
          have hDr := HD5.out.below hb9
          rw [hll] at hU
          rw [HLA.out] at hAr
          rw [HLB.out] at hBr
          rw [HLC.out] at hCr
          have HU0 := Lib.hid hU
          have HA0 := Lib.hid hAr
          have HBB0 := Lib.hid hBr
          have HC0 := Lib.hid hCr
          have HD0 := Lib.hid hDr
          clear ho9 hg9 hk9 hb9 hm9 HB8 HK8 Q8 X8 HD5 HA5 HB5 HC5 hU hAr hBr hCr hDr hll
          obtain ⟨lu, HLU⟩ : ∃ lu, Hid (lb + la = lu) := ⟨_, rfl⟩
          have hlu : lb + la ≤ 28 := by omega
          simp only [HLU.out] at HU0 hlu ⊢
          have HV1 := Lib.hid (bet_val HCK.out HM.out HFA.out HFC.out HAC.out)
          have HV2 := Lib.hid (bet_val HCK.out HM.out HFB.out HFC.out HBC.out)
          have hUC : (B ++ A ++ C).Nodup := nodup3 HBC.out HAC.out HBA.out
          have HFU : Hid (∀ x ∈ B ++ A, x < k) := fun x hx => by
            rcases List.mem_append.1 hx with h | h
            · exact HFB.out x h
            · exact HFA.out x h
          have HV3 := Lib.hid (bet_val HCK.out HM.out HFU.out HFC.out hUC)
          have HV4 := Lib.hid (bet_comm HCK.out HM.out HFU.out HFC.out hUC)
          clear hUC
          go_wp2_with fail
          with_reducible refine (between_ok w9 k m (some ⟨db, 0, none⟩) nn nn db 0 d HD0.out (by omega) o0 o2 la lc p0 p2 bA bC 0 0 (zI A) (zI C) HA0.out HC0.out (by omega) (by omega)).mono ?_
          rintro e v1 ⟨rfl, hbv⟩
          obtain ⟨N1, D1, E1, HX1⟩ : ∃ N D E, Hid (betL k d m (zI A) (zI C) = (N, D, E)) := ⟨_, _, _, rfl⟩
          rw [HX1.out]
          simp only [betV]
          have hbz := bel_then hbv ((Below.refl v1.heap.size v1).alloc (Nat.le_refl _) (.cells #[.int .i64 N1, .int .i64 D1] 33))
          have HF10 := Lib.hid (Blk.new v1 33 [.int .i64 N1, .int .i64 D1])
          have HA1 := Lib.hid (HA0.out.below hbz)
          have HBB1 := Lib.hid (HBB0.out.below hbz)
          have HC1 := Lib.hid (HC0.out.below hbz)
          have HU1 := Lib.hid (HU0.out.below hbz)
          have HD1 := Lib.hid (HD0.out.below hbz)
          have HBW1 := Lib.hid (bel_then HB9.out hbz)
          clear hbv hbz HA0 HBB0 HC0 HU0 HD0 HB9
          go_wp2_with fail
          generalize hWW : World.alloc v1 _ = W1 at *
          clear hWW
          with_reducible refine (between_ok W1 k m (some ⟨db, 0, none⟩) nn nn db 0 d HD1.out (by omega) o1 o2 lb lc p1 p2 bB bC 0 0 (zI B) (zI C) HBB1.out HC1.out (by omega) (by omega)).mono ?_
          rintro e v2 ⟨rfl, hbv⟩
          obtain ⟨N2, D2, E2, HX2⟩ : ∃ N D E, Hid (betL k d m (zI B) (zI C) = (N, D, E)) := ⟨_, _, _, rfl⟩
          rw [HX2.out]
          simp only [betV]
          have hbz := bel_then hbv ((Below.refl v2.heap.size v2).alloc (Nat.le_refl _) (.cells #[.int .i64 N2, .int .i64 D2] 33))
          have HF20 := Lib.hid (Blk.new v2 33 [.int .i64 N2, .int .i64 D2])
          have HA2 := Lib.hid (HA1.out.below hbz)
          have HBB2 := Lib.hid (HBB1.out.below hbz)
          have HC2 := Lib.hid (HC1.out.below hbz)
          have HU2 := Lib.hid (HU1.out.below hbz)
          have HD2 := Lib.hid (HD1.out.below hbz)
          have HBW2 := Lib.hid (bel_then HBW1.out hbz)
          have HF12 := Lib.hid (HF10.out.below hbz HF10.out.lt)
          clear hbv hbz HA1 HBB1 HC1 HU1 HD1 HBW1 HF10
          go_wp2_with fail
          generalize hWW : World.alloc v2 _ = W2 at *
          clear hWW
          with_reducible refine (between_ok W2 k m (some ⟨db, 0, none⟩) nn nn db 0 d HD2.out (by omega) o6 o2 lu lc c6 p2 bU bC 0 0 (zI (B ++ A)) (zI C) HU2.out HC2.out (by omega) (by omega)).mono ?_
          rintro e v3 ⟨rfl, hbv⟩
          obtain ⟨N3, D3, E3, HX3⟩ : ∃ N D E, Hid (betL k d m (zI (B ++ A)) (zI C) = (N, D, E)) := ⟨_, _, _, rfl⟩
          rw [HX3.out]
          simp only [betV]
          have hbz := bel_then hbv ((Below.refl v3.heap.size v3).alloc (Nat.le_refl _) (.cells #[.int .i64 N3, .int .i64 D3] 33))
          have HF30 := Lib.hid (Blk.new v3 33 [.int .i64 N3, .int .i64 D3])
          have HA3 := Lib.hid (HA2.out.below hbz)
          have HBB3 := Lib.hid (HBB2.out.below hbz)
          have HC3 := Lib.hid (HC2.out.below hbz)
          have HU3 := Lib.hid (HU2.out.below hbz)
          have HD3 := Lib.hid (HD2.out.below hbz)
          have HBW3 := Lib.hid (bel_then HBW2.out hbz)
          have HF13 := Lib.hid (HF12.out.below hbz HF12.out.lt)
          have HF23 := Lib.hid (HF20.out.below hbz HF20.out.lt)
          clear hbv hbz HA2 HBB2 HC2 HU2 HD2 HBW2 HF12 HF20
          go_wp2_with fail
          generalize hWW : World.alloc v3 _ = W3 at *
          clear hWW
          with_reducible refine (between_ok W3 k m (some ⟨db, 0, none⟩) nn nn db 0 d HD3.out (by omega) o2 o6 lc lu p2 c6 bC bU 0 0 (zI C) (zI (B ++ A)) HC3.out HU3.out (by omega) (by omega)).mono ?_
          rintro e v4 ⟨rfl, hbv⟩
          obtain ⟨N4, D4, E4, HX4⟩ : ∃ N D E, Hid (betL k d m (zI C) (zI (B ++ A)) = (N, D, E)) := ⟨_, _, _, rfl⟩
          rw [HX4.out]
          simp only [betV]
          have hbz := bel_then hbv ((Below.refl v4.heap.size v4).alloc (Nat.le_refl _) (.cells #[.int .i64 N4, .int .i64 D4] 33))
          have HF40 := Lib.hid (Blk.new v4 33 [.int .i64 N4, .int .i64 D4])
          have HA4 := Lib.hid (HA3.out.below hbz)
          have HBB4 := Lib.hid (HBB3.out.below hbz)
          have HC4 := Lib.hid (HC3.out.below hbz)
          have HU4 := Lib.hid (HU3.out.below hbz)
          have HD4 := Lib.hid (HD3.out.below hbz)
          have HBW4 := Lib.hid (bel_then HBW3.out hbz)
          have HF14 := Lib.hid (HF13.out.below hbz HF13.out.lt)
          have HF24 := Lib.hid (HF23.out.below hbz HF23.out.lt)
          have HF34 := Lib.hid (HF30.out.below hbz HF30.out.lt)
          clear hbv hbz HA3 HBB3 HC3 HU3 HD3 HBW3 HF13 HF23 HF30
          have hz4 := HV4.out
          rw [HX4.out, HX3.out] at hz4
          injection hz4 with z1 z2
          injection z2 with z2 z3
          replace z1 := z1.symm
          replace z2 := z2.symm
          replace z3 := z3.symm
          subst z1
          subst z2
          subst z3
          go_upto_region 20 with fail
          generalize hWW : World.alloc v4 _ = W4 at *
          clear hWW HX4 HV4
          have f10 := HF14.out.cell (i := 0) rfl
          have f11 := HF14.out.cell (i := 1) rfl
          have f20 := HF24.out.cell (i := 0) rfl
          have f21 := HF24.out.cell (i := 1) rfl
          have f30 := HF34.out.cell (i := 0) rfl
          have f31 := HF34.out.cell (i := 1) rfl
          have f40 := HF40.out.cell (i := 0) rfl
          have f41 := HF40.out.cell (i := 1) rfl
          clear HF14 HF24 HF34 HF40 HA4 HBB4 HC4 HU4 HD4
          have hEA : A = [] ↔ la = 0 := by rw [← HLA.out, zI_length]; exact List.length_eq_zero_iff.symm
          have hEB : B = [] ↔ lb = 0 := by rw [← HLB.out, zI_length]; exact List.length_eq_zero_iff.symm
          have hEC : C = [] ↔ lc = 0 := by rw [← HLC.out, zI_length]; exact List.length_eq_zero_iff.symm
          have hX1 := HX1.out
          rw [HV1.out] at hX1
          have hX2 := HX2.out
          rw [HV2.out] at hX2
          have HIA := Lib.hid hEA
          have HIB := Lib.hid hEB
          have HIC := Lib.hid hEC
          clear hEA hEB hEC
          by_cases hemp : A = [] ∨ B = [] ∨ C = []
          · have h1 : E1 = if la = 0 ∨ lc = 0 then 2 else 0 := by
              by_cases hh : A = [] ∨ C = []
              · rw [if_pos hh] at hX1; rw [if_pos (by rw [← HIA.out, ← HIC.out]; exact hh)]; injection hX1 with _ z; injection z with _ z; exact z.symm
              · rw [if_neg hh] at hX1; rw [if_neg (by rw [← HIA.out, ← HIC.out]; exact hh)]; injection hX1 with _ z; injection z with _ z; exact z.symm
            have h2 : E2 = if lb = 0 ∨ lc = 0 then 2 else 0 := by
              by_cases hh : B = [] ∨ C = []
              · rw [if_pos hh] at hX2; rw [if_pos (by rw [← HIB.out, ← HIC.out]; exact hh)]; injection hX2 with _ z; injection z with _ z; exact z.symm
              · rw [if_neg hh] at hX2; rw [if_neg (by rw [← HIB.out, ← HIC.out]; exact hh)]; injection hX2 with _ z; injection z with _ z; exact z.symm
            have h0 : la = 0 ∨ lb = 0 ∨ lc = 0 := by rw [← HIA.out, ← HIB.out, ← HIC.out]; exact hemp
            have HBF := Lib.hid (bel_then HBq.out HBW4.out)
            clear hX1 hX2 hemp HX1 HX2 HX3 HV1 HV2 HV3
            by_cases ha : la = 0 <;> by_cases hb : lb = 0 <;> by_cases hc : lc = 0
            all_goals first | (exfalso; omega) | skip
            all_goals simp only [ha, hb, hc, or_true, true_or, or_self, or_false, false_or, if_true, if_false] at h1 h2
            all_goals subst h1
            all_goals subst h2
            all_goals try have ta : ((la : Int) == 0) = true := by simp [ha]
            all_goals try have ta : ((la : Int) == 0) = false := by simp [ha]
            all_goals try have tb : ((lb : Int) == 0) = true := by simp [hb]
            all_goals try have tb : ((lb : Int) == 0) = false := by simp [hb]
            all_goals try have tc : ((lc : Int) == 0) = true := by simp [hc]
            all_goals try have tc : ((lc : Int) == 0) = false := by simp [hc]
            all_goals clear ha hb hc h0
            all_goals as_aux_lemma =>
              go_wp2_with fail
              go_roundw
              case rel => exact ⟨q + 1, by omega, by go_num, HBF.out⟩
              case measure => simp [intOf]; omega
          · have hA0 : A ≠ [] := fun e => hemp (.inl e)
            have hB0 : B ≠ [] := fun e => hemp (.inr (.inl e))
            have hC0 : C ≠ [] := fun e => hemp (.inr (.inr e))
            have hU0 : B ++ A ≠ [] := by simp [hB0]
            have hX3 := HX3.out
            rw [HV3.out, if_neg (by rintro (h | h); exact hU0 h; exact hC0 h)] at hX3
            rw [if_neg (by rintro (h | h); exact hA0 h; exact hC0 h)] at hX1
            rw [if_neg (by rintro (h | h); exact hB0 h; exact hC0 h)] at hX2
            injection hX1 with n1 z1
            injection z1 with d1 z1
            injection hX2 with n2 z2
            injection z2 with d2 z2
            injection hX3 with n3 z3
            injection z3 with d3 z3
            subst z1
            subst z2
            subst z3
            have HO1 := Lib.hid (HOk.of (n := k) (by omega) HM.out (DOk.of_check HCK.out) hA0 hC0 (by rw [← List.length_append]; exact nodup_le HAC.out (fun x hx => by rcases List.mem_append.1 hx with h | h; exact HFA.out x h; exact HFC.out x h)))
            have HO2 := Lib.hid (HOk.of (n := k) (by omega) HM.out (DOk.of_check HCK.out) hB0 hC0 (by rw [← List.length_append]; exact nodup_le HBC.out (fun x hx => by rcases List.mem_append.1 hx with h | h; exact HFB.out x h; exact HFC.out x h)))
            have HO3 := Lib.hid (HOk.of (n := k) (by omega) HM.out (DOk.of_check HCK.out) hU0 hC0 (by rw [← List.length_append]; exact nodup_le (nodup3 HBC.out HAC.out HBA.out) (fun x hx => by rcases List.mem_append.1 hx with h | h; exact HFU.out x h; exact HFC.out x h)))
            rw [n1, d1] at HO1
            rw [n2, d2] at HO2
            rw [n3, d3] at HO3
            have ta : ((la : Int) == 0) = false := by have := mt HIA.out.2 hA0; simp; omega
            have tb : ((lb : Int) == 0) = false := by have := mt HIB.out.2 hB0; simp; omega
            have tc : ((lc : Int) == 0) = false := by have := mt HIC.out.2 hC0; simp; omega
            have HN1 := Lib.hid n1
            have HN2 := Lib.hid n2
            have HN3 := Lib.hid n3
            have HQ1 := Lib.hid d1
            have HQ2 := Lib.hid d2
            have HQ3 := Lib.hid d3
            have HBF := Lib.hid (bel_then HBq.out HBW4.out)
            clear hemp n1 n2 n3 d1 d2 d3 HX1 HX2 HX3 HV1 HV2 HV3 HBq HBW4
            go_wp2_with fail
            with_reducible refine (proper_ok N1 D1 _ HO1.out.h1 HO1.out.h2 HO1.out.h3 HO1.out.h4 HO1.out.h5).mono ?_
            rintro e x1 ⟨rfl, hbx⟩
            have kp : ∀ {p : Addr} {v : Value}, W4.cell? p = some v → x1.cell? p = some v := fun h => (hbx.cell (World.block_lt_of_cell? W4 _ h)).trans h
            replace f10 := kp f10
            replace f11 := kp f11
            replace f20 := kp f20
            replace f21 := kp f21
            replace f30 := kp f30
            replace f31 := kp f31
            clear kp
            replace HBF := Lib.hid (bel_then HBF.out hbx)
            clear hbx f40 f41
            go_wp2_with fail
            with_reducible refine (proper_ok N2 D2 _ HO2.out.h1 HO2.out.h2 HO2.out.h3 HO2.out.h4 HO2.out.h5).mono ?_
            rintro e x2 ⟨rfl, hbx⟩
            have kp : ∀ {p : Addr} {v : Value}, x1.cell? p = some v → x2.cell? p = some v := fun h => (hbx.cell (World.block_lt_of_cell? x1 _ h)).trans h
            replace f10 := kp f10
            replace f11 := kp f11
            replace f20 := kp f20
            replace f21 := kp f21
            replace f30 := kp f30
            replace f31 := kp f31
            clear kp
            replace HBF := Lib.hid (bel_then HBF.out hbx)
            clear hbx
            go_wp2_with fail
            with_reducible refine (proper_ok N3 D3 _ HO3.out.h1 HO3.out.h2 HO3.out.h3 HO3.out.h4 HO3.out.h5).mono ?_
            rintro e x3 ⟨rfl, hbx⟩
            have kp : ∀ {p : Addr} {v : Value}, x2.cell? p = some v → x3.cell? p = some v := fun h => (hbx.cell (World.block_lt_of_cell? x2 _ h)).trans h
            replace f10 := kp f10
            replace f11 := kp f11
            replace f20 := kp f20
            replace f21 := kp f21
            replace f30 := kp f30
            replace f31 := kp f31
            clear kp
            replace HBF := Lib.hid (bel_then HBF.out hbx)
            clear hbx
            rcases HM.out with rfl | rfl | rfl
            · obtain ⟨⟨q1, q2, q3⟩, q4⟩ := parts12 HCK.out (.inl rfl) hA0 hB0 hC0
              rw [HQ1.out] at q1
              rw [HQ2.out] at q2
              rw [HQ3.out] at q3
              rw [HN3.out, HN2.out, HN1.out] at q4
              subst q1
              subst q2
              subst q3
              have q5 : N3 = min N2 N1 := q4
              clear q4
              by_cases hle : N1 ≤ N2
              · obtain rfl : N3 = N1 := by omega
                as_aux_lemma =>
                  clear q5
                  go_wp2_with fail
                  with_reducible refine (below_ok N3 1 N3 1 _ (by omega) (by omega) HO3.out.h3 HO3.out.lim (by omega) (by omega) HO3.out.h3 HO3.out.lim).mono ?_
                  rintro e y1 ⟨rfl, hbx⟩
                  rw [show lessB (N3, 1) (N3, 1) = false from lessB_irrefl _]
                  have kp : ∀ {p : Addr} {v : Value}, x3.cell? p = some v → y1.cell? p = some v := fun h => (hbx.cell (World.block_lt_of_cell? x3 _ h)).trans h
                  replace f10 := kp f10
                  replace f11 := kp f11
                  replace f20 := kp f20
                  replace f21 := kp f21
                  replace f30 := kp f30
                  replace f31 := kp f31
                  clear kp
                  replace HBF := Lib.hid (bel_then HBF.out hbx)
                  clear hbx
                  go_wp2_with fail
                  with_reducible refine (below_ok N2 1 N3 1 _ (by omega) (by omega) HO2.out.h3 HO2.out.lim (by omega) (by omega) HO3.out.h3 HO3.out.lim).mono ?_
                  rintro e y2 ⟨rfl, hbx⟩
                  rw [show lessB (N2, 1) (N3, 1) = false from (by rw [lessB_one]; exact decide_eq_false (by omega))]
                  have kp : ∀ {p : Addr} {v : Value}, y1.cell? p = some v → y2.cell? p = some v := fun h => (hbx.cell (World.block_lt_of_cell? y1 _ h)).trans h
                  replace f10 := kp f10
                  replace f11 := kp f11
                  replace f20 := kp f20
                  replace f21 := kp f21
                  replace f30 := kp f30
                  replace f31 := kp f31
                  clear kp
                  replace HBF := Lib.hid (bel_then HBF.out hbx)
                  clear hbx
                  go_wp2_with fail
                  go_roundw
                  case rel => exact ⟨q + 1, by omega, by go_num, HBF.out⟩
                  case measure => simp [intOf]; omega
              · obtain rfl : N3 = N2 := by omega
                as_aux_lemma =>
                  have hne : (N3 == N1) = false := by simp; omega
                  have hne2 : ¬ N3 = N1 := by omega
                  clear q5
                  go_wp2_with fail
                  with_reducible refine (below_ok N1 1 N3 1 _ (by omega) (by omega) HO1.out.h3 HO1.out.lim (by omega) (by omega) HO3.out.h3 HO3.out.lim).mono ?_
                  rintro e y1 ⟨rfl, hbx⟩
                  rw [show lessB (N1, 1) (N3, 1) = false from (by rw [lessB_one]; exact decide_eq_false (by omega))]
                  have kp : ∀ {p : Addr} {v : Value}, x3.cell? p = some v → y1.cell? p = some v := fun h => (hbx.cell (World.block_lt_of_cell? x3 _ h)).trans h
                  replace f10 := kp f10
                  replace f11 := kp f11
                  replace f20 := kp f20
                  replace f21 := kp f21
                  replace f30 := kp f30
                  replace f31 := kp f31
                  clear kp
                  replace HBF := Lib.hid (bel_then HBF.out hbx)
                  clear hbx
                  go_wp2_with fail
                  with_reducible refine (below_ok N3 1 N3 1 _ (by omega) (by omega) HO3.out.h3 HO3.out.lim (by omega) (by omega) HO3.out.h3 HO3.out.lim).mono ?_
                  rintro e y2 ⟨rfl, hbx⟩
                  rw [show lessB (N3, 1) (N3, 1) = false from lessB_irrefl _]
                  have kp : ∀ {p : Addr} {v : Value}, y1.cell? p = some v → y2.cell? p = some v := fun h => (hbx.cell (World.block_lt_of_cell? y1 _ h)).trans h
                  replace f10 := kp f10
                  replace f11 := kp f11
                  replace f20 := kp f20
                  replace f21 := kp f21
                  replace f30 := kp f30
                  replace f31 := kp f31
                  clear kp
                  replace HBF := Lib.hid (bel_then HBF.out hbx)
                  clear hbx
                  go_wp2_with fail
                  go_roundw
                  case rel => exact ⟨q + 1, by omega, by go_num, HBF.out⟩
                  case measure => simp [intOf]; omega
            · obtain ⟨⟨q1, q2, q3⟩, q4⟩ := parts12 HCK.out (.inr rfl) hA0 hB0 hC0
              rw [HQ1.out] at q1
              rw [HQ2.out] at q2
              rw [HQ3.out] at q3
              rw [HN3.out, HN2.out, HN1.out] at q4
              subst q1
              subst q2
              subst q3
              have q5 : N3 = max N2 N1 := q4
              clear q4
              by_cases hle : N2 ≤ N1
              · obtain rfl : N3 = N1 := by omega
                as_aux_lemma =>
                  clear q5
                  go_wp2_with fail
                  with_reducible refine (below_ok N3 1 N3 1 _ (by omega) (by omega) HO3.out.h3 HO3.out.lim (by omega) (by omega) HO3.out.h3 HO3.out.lim).mono ?_
                  rintro e y1 ⟨rfl, hbx⟩
                  rw [show lessB (N3, 1) (N3, 1) = false from lessB_irrefl _]
                  have kp : ∀ {p : Addr} {v : Value}, x3.cell? p = some v → y1.cell? p = some v := fun h => (hbx.cell (World.block_lt_of_cell? x3 _ h)).trans h
                  replace f10 := kp f10
                  replace f11 := kp f11
                  replace f20 := kp f20
                  replace f21 := kp f21
                  replace f30 := kp f30
                  replace f31 := kp f31
                  clear kp
                  replace HBF := Lib.hid (bel_then HBF.out hbx)
                  clear hbx
                  go_wp2_with fail
                  with_reducible refine (below_ok N3 1 N2 1 _ (by omega) (by omega) HO3.out.h3 HO3.out.lim (by omega) (by omega) HO2.out.h3 HO2.out.lim).mono ?_
                  rintro e y2 ⟨rfl, hbx⟩
                  rw [show lessB (N3, 1) (N2, 1) = false from (by rw [lessB_one]; exact decide_eq_false (by omega))]
                  have kp : ∀ {p : Addr} {v : Value}, y1.cell? p = some v → y2.cell? p = some v := fun h => (hbx.cell (World.block_lt_of_cell? y1 _ h)).trans h
                  replace f10 := kp f10
                  replace f11 := kp f11
                  replace f20 := kp f20
                  replace f21 := kp f21
                  replace f30 := kp f30
                  replace f31 := kp f31
                  clear kp
                  replace HBF := Lib.hid (bel_then HBF.out hbx)
                  clear hbx
                  go_wp2_with fail
                  go_roundw
                  case rel => exact ⟨q + 1, by omega, by go_num, HBF.out⟩
                  case measure => simp [intOf]; omega
              · obtain rfl : N3 = N2 := by omega
                as_aux_lemma =>
                  have hne : (N3 == N1) = false := by simp; omega
                  have hne2 : ¬ N3 = N1 := by omega
                  clear q5
                  go_wp2_with fail
                  with_reducible refine (below_ok N3 1 N1 1 _ (by omega) (by omega) HO3.out.h3 HO3.out.lim (by omega) (by omega) HO1.out.h3 HO1.out.lim).mono ?_
                  rintro e y1 ⟨rfl, hbx⟩
                  rw [show lessB (N3, 1) (N1, 1) = false from (by rw [lessB_one]; exact decide_eq_false (by omega))]
                  have kp : ∀ {p : Addr} {v : Value}, x3.cell? p = some v → y1.cell? p = some v := fun h => (hbx.cell (World.block_lt_of_cell? x3 _ h)).trans h
                  replace f10 := kp f10
                  replace f11 := kp f11
                  replace f20 := kp f20
                  replace f21 := kp f21
                  replace f30 := kp f30
                  replace f31 := kp f31
                  clear kp
                  replace HBF := Lib.hid (bel_then HBF.out hbx)
                  clear hbx
                  go_wp2_with fail
                  with_reducible refine (below_ok N3 1 N3 1 _ (by omega) (by omega) HO3.out.h3 HO3.out.lim (by omega) (by omega) HO3.out.h3 HO3.out.lim).mono ?_
                  rintro e y2 ⟨rfl, hbx⟩
                  rw [show lessB (N3, 1) (N3, 1) = false from lessB_irrefl _]
                  have kp : ∀ {p : Addr} {v : Value}, y1.cell? p = some v → y2.cell? p = some v := fun h => (hbx.cell (World.block_lt_of_cell? y1 _ h)).trans h
                  replace f10 := kp f10
                  replace f11 := kp f11
                  replace f20 := kp f20
                  replace f21 := kp f21
                  replace f30 := kp f30
                  replace f31 := kp f31
                  clear kp
                  replace HBF := Lib.hid (bel_then HBF.out hbx)
                  clear hbx
                  go_wp2_with fail
                  go_roundw
                  case rel => exact ⟨q + 1, by omega, by go_num, HBF.out⟩
                  case measure => simp [intOf]; omega
            · obtain ⟨P1, P2, P3, T1, T2, T3, G1, G2, i1, i2, i3, i4, i5, i6, i7, i8, i9, i10, i11, i12, ⟨b1, b2, b3, b4, b5, b6⟩, ⟨b7, b8, b9, b10, b11, b12⟩, ⟨b13, b14, b15, b16⟩⟩ := parts3 HCK.out hA0 hB0 hC0 (by have := HLA.out; rw [zI_length] at this; omega) (by have := HLB.out; rw [zI_length] at this; omega) (by have := HLC.out; rw [zI_length] at this; omega) HN1.out HQ1.out HN2.out HQ2.out HN3.out HQ3.out
              rw [show A.length = la from by rw [← HLA.out, zI_length], show C.length = lc from by rw [← HLC.out, zI_length]] at i1
              rw [show B.length = lb from by rw [← HLB.out, zI_length], show C.length = lc from by rw [← HLC.out, zI_length]] at i2
              rw [show A.length = la from by rw [← HLA.out, zI_length], show B.length = lb from by rw [← HLB.out, zI_length], show C.length = lc from by rw [← HLC.out, zI_length]] at i3
              as_aux_lemma =>
                have t1 : ¬ D1 = 0 := by have := HO1.out.h1; omega
                have t2 : ¬ D2 = 0 := by have := HO2.out.h1; omega
                have t3 : ¬ D3 = 0 := by have := HO3.out.h1; omega
                have u1 : (D1 == 0) = false := by simp; omega
                have u2 : (D2 == 0) = false := by simp; omega
                have u3 : (D3 == 0) = false := by simp; omega
                have j4 : P1.tdiv D1 = T1 := by rw [td_pos b1]; exact i4
                have j5 : P2.tdiv D2 = T2 := by rw [td_pos b3]; exact i5
                have j6 : P3.tdiv D3 = T3 := by rw [td_pos b5]; exact i6
                have j7 : P1.tmod D1 = 0 := by rw [tm_pos b1]; exact i7
                have j8 : P2.tmod D2 = 0 := by rw [tm_pos b3]; exact i8
                have j9 : P3.tmod D3 = 0 := by rw [tm_pos b5]; exact i9
                have k1 : IntKind.i64.wrap P1 = P1 := IntWalk.i64_in _ (by omega)
                have k2 : IntKind.i64.wrap P2 = P2 := IntWalk.i64_in _ (by omega)
                have k3 : IntKind.i64.wrap P3 = P3 := IntWalk.i64_in _ (by omega)
                have k4 : IntKind.i64.wrap T1 = T1 := IntWalk.i64_in _ (by omega)
                have k5 : IntKind.i64.wrap T2 = T2 := IntWalk.i64_in _ (by omega)
                have k6 : IntKind.i64.wrap T3 = T3 := IntWalk.i64_in _ (by omega)
                have k7 : IntKind.i64.wrap G1 = G1 := IntWalk.i64_in _ (by omega)
                have k8 : IntKind.i64.wrap G2 = G2 := IntWalk.i64_in _ (by omega)
                have k9 : IntKind.i64.wrap (G1 + G2) = G1 + G2 := IntWalk.i64_in _ (by omega)
                have k10 : IntKind.i64.wrap ((la : Int) + (lb : Int)) = (la : Int) + (lb : Int) := IntWalk.i64_in _ (by omega)
                clear i4 i5 i6 i7 i8 i9
                go_wp2_with fail
                go_quiet (fail)
                go_wp2_with fail
                go_quiet (fail)
                go_wp2_with fail
                go_roundw
                case rel => exact ⟨q + 1, by omega, by go_num, bel_drewN HBF.out _⟩
                case measure => simp [intOf]; omega
        · obtain rfl : q = 3 := by omega
          go_wp2_with fail
          with_reducible refine (works_ok _).mono ?_
          rintro e w5 ⟨rfl, hb5⟩
          have HB5 := Lib.hid (bel_then (bel_then HBM.out HBq.out) hb5)
          clear hb5
          go_wp2_with fail
          go_ret
          exact ⟨rfl, HB5.out⟩

end Go.Proofs.YthhddjknjnjbhaaDoor
