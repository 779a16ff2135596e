/- The statement ReconTops: the walk. -/
import Derived.Test.YtenhbfbfkcjimaaZRlG
import Derived.Test.YtenhbfbfkcjimaaZMgB
namespace Go.Proofs.Ytenhbfbfkcjimaa
set_option linter.unusedVariables false
set_option linter.unusedSimpArgs false
open Go.RowKit

theorem GBox.mod {F : Nat → Prop} {W W' : World} {x n m : Nat} {A : TA} (h : GBox W x n m A) (hm : Mod F W W') (hn : ¬ F x) : GBox W' x n m A := Blk.mod h hm hn

/-- The tops of the first v leaves. -/
def tpL (T : Tr) (m : Nat) (th : Int) (n v : Nat) : List Nat := (List.range v).map (fun u => ab T m th u) ++ List.replicate (n - v) 0
theorem tpL_len {T : Tr} {m : Nat} {th : Int} {n v : Nat} (h : v ≤ n) : (tpL T m th n v).length = n := by unfold tpL; simp; omega
theorem tpL_set {T : Tr} {m : Nat} {th : Int} {n v : Nat} (h : v < n) : (tpL T m th n v).set v (ab T m th v) = tpL T m th n (v + 1) := by
  unfold tpL
  rw [show n - v = (n - (v + 1)) + 1 by omega, List.replicate_succ, List.set_append_right _ _ (by simp), List.range_succ, List.map_append]
  simp
theorem tpL_at {T : Tr} {m : Nat} {th : Int} {n v u : Nat} (h : u < v) : (tpL T m th n v).getD u 0 = ab T m th u := by
  unfold tpL
  rw [List.getD_eq_getElem?_getD, List.getElem?_append_left (by simpa using h), List.getElem?_map, List.getElem?_range h]; rfl
theorem labs_at {T : Tr} {n m : Nat} {ls : List Nat} {th : Int} {u : Nat} (h : u < n) : (labelsL T n m ls th).getD u 0 = ls.getD (ab T m th u) 0 := by
  unfold labelsL
  rw [List.getD_eq_getElem?_getD, List.getElem?_map, List.getElem?_range h]; rfl

set_option maxHeartbeats 60000000 in
set_option maxRecDepth 100000 in
theorem tops_law (w : World) (sz : Nat) (hsz : sz ≤ 255) (ao : Option Addr) (len cap b off : Nat) (F : Nat → Nat → Nat) (hr : BRow w ao len b off F) (th : Int) (hth : -128 ≤ th ∧ th ≤ 127) :
    Calls Try.prog 5 #[.int .u8 sz, .slice ao len cap, .int .i8 th] w (RetB (.bool true) w) := by
  have hth1 := hth.1
  have hth2 := hth.2
  clear hth
  have HR := Lib.hid hr
  clear hr
  go_enter Try.func5, Try.ntmps5
  go_wp2_with fail
  with_reducible refine (edges_ok w sz hsz ao len cap b off F HR.out).mono ?_
  rintro e w2 ⟨v, rfl, hnr⟩
  have hn50 : 1 ≤ 1 + sz % 50 ∧ 1 + sz % 50 ≤ 50 := by omega
  have hg := egF_ok hn50 F len
  obtain ⟨L, hL⟩ : ∃ L, egF (1 + sz % 50) F len = L := ⟨_, rfl⟩
  rw [hL] at hnr hg
  clear hL
  generalize 1 + sz % 50 = n at *
  obtain ⟨a1, k1, rfl, hcon⟩ := build_g w2 n v L hg hnr.own
  have HNR := Lib.hid hnr
  have HB2 := Lib.hid hnr.bel
  have hgt0 := gtree hg
  have HCON := Lib.hid hcon
  clear hnr hcon hg HR
  go_wp2_with fail
  with_reducible refine (HCON.out).mono ?_
  rintro e w3 ⟨⟨B, rfl, hbt, hbm⟩, hb⟩
  clear HCON
  obtain ⟨T, hT⟩ : ∃ T, bdL n L = T := ⟨_, rfl⟩
  obtain ⟨m, hm⟩ : ∃ m, n + FN n L = m := ⟨_, rfl⟩
  obtain ⟨ls, hls⟩ : ∃ ls, lsB n L (FN n L) = ls := ⟨_, rfl⟩
  rw [hT, hm, hls] at hgt0
  rw [hT, hm] at hbt
  rw [hT, hm]
  have HGT := Lib.hid hgt0
  have hm2 := hgt0.two
  have hnm := hgt0.tv.nm
  have hn4 := hgt0.tv.hn
  have ht3 := hbt.tree (by rw [hgt0.tv.lv]; omega) (by omega)
  have HBT := Lib.hid hbt
  have HBM := Lib.hid hbm
  clear hT hm hls hbt hbm
  obtain ⟨A, hA⟩ : ∃ A, B.ta m = A := ⟨_, rfl⟩
  rw [hA] at ht3
  rw [hA, hgt0.agg A]
  have HBX := Lib.hid (bel_alloc w3 (.cells #[.int .i64 (n : Int), .slice A.l.o m A.l.c, .slice A.r.o m A.r.c, .slice A.p.o m A.p.c, .slice A.h.o m A.h.c, .slice A.s.o m A.s.c] 27))
  have HX := Lib.hid (GBox.new w3 n m A)
  have HT := Lib.hid (ht3.below HBX.out)
  have HB3 := Lib.hid (bel_then HB2.out (bel_then hb HBX.out))
  have HAB := Lib.hid hA
  clear ht3 hb hA hgt0
  obtain ⟨c0, c1, c2, c3, c4, c5⟩ := HX.out.six
  have tn : ((n : Int) != (n : Int)) = false := by simp
  have tm : ((m : Int) != (m : Int)) = false := by simp
  have wth : IntKind.i64.wrap th = th := IntWalk.i64_in _ (by omega)
  go_wp2_with fail
  clear HBX
  generalize w3.heap.size = xb at *
  generalize w3.alloc (.cells #[.int .i64 (n : Int), .slice A.l.o m A.l.c, .slice A.r.o m A.r.c, .slice A.p.o m A.p.c, .slice A.h.o m A.h.c, .slice A.s.o m A.s.c] 27) = W at *
  with_reducible refine (glabels_ok HGT.out HT.out th).mono ?_
  rintro e w5 ⟨v11, rfl, hnr⟩
  obtain ⟨al, cl, bl11, rfl, _, _⟩ := own_rowN hnr.own (labels_len T n m ls th)
  have HLB := Lib.hid hnr.own
  have HX5 := Lib.hid (HX.out.below hnr.bel)
  have HT5 := Lib.hid (HT.out.below hnr.bel)
  have HB5 := Lib.hid (bel_then HB3.out hnr.bel)
  clear hnr c0 c1 c2 c3 c4 c5 HX HT HB3
  go_wp2_with (at_make; apply keepIt)
  apply Lib.hid
  refine wpList_makeB 3 (.int .i64 0) 8 Try.underlying24 Try.infoInt rfl _ _ _ _ n rfl rfl rfl rfl (by omega) (by unfold maxLen; omega) ?_
  intro w6 hB6 hb6
  have HTB : Hid (Blk w6 w5.heap.size 3 (natV (tpL T m th n 0))) := by show Blk _ _ _ _; unfold tpL; rw [List.range_zero, List.map_nil, List.nil_append, natV_zero]; exact hB6
  have HX6 := Lib.hid (HX5.out.below hb6)
  have HT6 := Lib.hid (HT5.out.below hb6)
  have HB6 := Lib.hid (bel_then HB5.out hb6)
  have HL6 : Hid (w6.ownsRow 0 3 1 (.slice al n cl) n (natV (labelsL T n m ls th))) := owns_mod HLB.out (Mod.of_below (F := fun _ => False) hb6) (fun _ _ h => h)
  have HLN : Hid (∀ k, (Value.slice al n cl).ownBlock = some k → k ≠ w5.heap.size) := fun k hk e => by have := own_lt HLB.out hk; omega
  have HAN : Hid (∀ k, A.has T k → k ≠ w5.heap.size) := fun k hk e => by have := HT5.out.lt hk; omega
  have HXN : Hid (xb ≠ w5.heap.size) := fun e => by have := Blk.lt HX5.out; omega
  have HTN : Hid (w.heap.size ≤ w5.heap.size) := HB5.out.size
  clear hB6 hb6 HLB HX5 HT5 HB5
  generalize w5.heap.size = tb at *
  go_wp2_with fail
  go_loopw [13] (fun s wr => ∃ v : Nat, v ≤ n ∧ s = .int .i64 v ∧ Blk wr tb 3 (natV (tpL T m th n v)) ∧ Mod (fun k => k = tb) w6 wr) (fun s _ => n - (intOf s).toNat)
  case atStart => exact ⟨0, Nat.zero_le _, rfl, HTB.out, Mod.refl _ _⟩
  case round =>
    obtain ⟨v, hv, rfl, htb, hmd⟩ := hrel
    clear HTB
    have HTB := Lib.hid htb
    have HMD := Lib.hid hmd
    clear htb hmd
    by_cases hvn : v < n
    · have HXR := Lib.hid (HX6.out.mod HMD.out HXN.out)
      have HTR := Lib.hid (HT6.out.mod HMD.out HAN.out)
      obtain ⟨c0, c1, c2, c3, c4, c5⟩ := HXR.out.six
      go_wp2_with fail
      with_reducible refine (gtop_ok HGT.out HTR.out v hvn th).mono ?_
      rintro e w7 ⟨rfl, hb⟩
      have hvm : v < m := by omega
      obtain ⟨hxm, hvx⟩ := ab_lt HGT.out.tv th v hvm
      obtain ⟨_, hab2, hab3⟩ := ab_end HGT.out.tv th v hvm
      have HTOP : Hid (∀ u, u < n → (ab T m th u = ab T m th v ↔ ls.getD (ab T m th u) 0 = ls.getD (ab T m th v) 0)) := fun u hu => top_label HGT.out.tv th hu hvn
      obtain ⟨x, hx⟩ : ∃ x, ab T m th v = x := ⟨_, rfl⟩
      rw [hx] at hxm hvx hab2 hab3
      rw [hx]
      have HXV := Lib.hid hx
      clear hx
      have HX7 := Lib.hid (HXR.out.below hb)
      have HT7 := Lib.hid (HTR.out.below hb)
      have HM7 := Lib.hid (HMD.out.trans (Mod.of_below (F := fun _ => False) hb) (fun _ _ h => h.elim))
      have HTB7 := Lib.hid (HTB.out.below hb HTB.out.lt)
      clear hb c0 c1 c2 c3 c4 c5 HXR HTR HMD HTB
      obtain ⟨c0, c1, c2, c3, c4, c5⟩ := HX7.out.six
      obtain ⟨ep, p1⟩ := HT7.out.p.get (i := x) (by rw [HGT.out.tv.pl]; exact hxm)
      obtain ⟨eh, h1⟩ := HT7.out.h.get (i := x) (by rw [HGT.out.tv.hl]; exact hxm)
      rw [ep] at c3
      rw [eh] at c4
      clear ep eh
      have q0 : decide ((x : Int) < 0) = false := by simp
      have q1 : decide ((m : Int) ≤ (x : Int)) = false := by simp; omega
      have q1' : decide (m ≤ x) = false := by simp; omega
      have q2 : (x : Int) < (m : Int) := by omega
      have q3 : (0 : Int) ≤ (x : Int) := by omega
      go_upto_region 13 with fail
      go_cut [117] (fun s wx => s = .bool false ∧ w7 = wx)
      case first =>
        by_cases hxn : x < n
        · have hxe : x = v := by rcases hab2 with e | e <;> omega
          have r1 : decide (n ≤ x) = false := by simp; omega
          have r2 : decide (x < n) = true := decide_eq_true hxn
          have r3 : ((x : Int) != (v : Int)) = false := by simp [hxe]
          have HH := Lib.hid hxe
          clear hxn hxe hab2 hab3
          go_wp2_with fail
          go_meet
          exact ⟨rfl, rfl⟩
        · have hxe : gi T.hgt x ≤ th := by rcases hab2 with e | e <;> omega
          generalize gi T.hgt x = hx at *
          have r1 : decide (n ≤ x) = true := by simp; omega
          have r2 : decide (x < n) = false := decide_eq_false hxn
          have r3 : decide (th < hx) = false := by simp; omega
          clear hxn hxe hab2 hab3
          go_wp2_with fail
          go_meet
          exact ⟨rfl, rfl⟩
      case rest =>
        obtain ⟨rfl, rfl⟩ := hcut
        clear h1 hab2 q1 q1' q0
        have hpar : gi T.par x = -1 ∨ ∃ p : Nat, gi T.par x = p ∧ p < m ∧ th < gi T.hgt p := by
          rcases HGT.out.tv.par hxm with e | ⟨p, e, e1, e2, e3, _⟩
          · exact .inl e
          · refine .inr ⟨p, e, e3, ?_⟩
            rcases hab3 with q | ⟨p', q, q1, q2⟩
            · omega
            · have : p' = p := by omega
              rw [this] at q2; exact q2
        clear hab3
        obtain ⟨pv, hpv⟩ : ∃ pv, gi T.par x = pv := ⟨_, rfl⟩
        rw [hpv] at p1 hpar
        clear hpv
        go_upto_region 16 with fail
        go_cut [141] (fun s wx => s = .bool false ∧ w7 = wx)
        case first =>
          rcases hpar with rfl | ⟨p, rfl, hpm, hph⟩
          · clear p1
            go_wp2_with fail
            go_meet
            exact ⟨rfl, rfl⟩
          · obtain ⟨_, h2⟩ := HT7.out.h.get (i := p) (by rw [HGT.out.tv.hl]; exact hpm)
            generalize gi T.hgt p = hp at *
            have r0 : decide ((0 : Int) ≤ (p : Int)) = true := by simp
            have r1 : decide (m ≤ p) = false := by simp; omega
            have r1' : decide ((m : Int) ≤ (p : Int)) = false := by simp; omega
            have r2 : (p : Int) < (m : Int) := by omega
            have r3 : (0 : Int) ≤ (p : Int) := by omega
            have r4 : decide (hp ≤ th) = false := by simp; omega
            clear p1 hph
            go_wp2_with fail
            go_meet
            exact ⟨rfl, rfl⟩
        case rest =>
          obtain ⟨rfl, rfl⟩ := hcut
          clear hpar p1
          have ct := blkN HTB7.out (i := v) (by rw [tpL_len (by omega)]; exact hvn)
          have ft := HTB7.out.free v
          generalize (tpL T m th n v).getD v 0 = old at *
          have t1 : (v : Int) < (n : Int) := by omega
          have t2 : (0 : Int) ≤ (v : Int) := by omega
          have HTB8 : Hid (Blk (w7.setCell ⟨tb, v, none⟩ (.int .i64 x)) tb 3 (natV (tpL T m th n (v + 1)))) := by
            have := blkN_set HTB7.out v x
            rw [← HXV.out, tpL_set hvn, HXV.out] at this
            exact this
          have HM8 := Lib.hid (HM7.out.setCell ⟨tb, v, none⟩ (fun _ => rfl) (.int .i64 (x : Int)))
          go_wp2_with fail
          clear ct ft c0 c1 c2 c3 c4 c5
          generalize w7.setCell ⟨tb, v, none⟩ (.int .i64 (x : Int)) = w8 at *
          go_loopw [17] (fun s wz => ∃ u : Nat, u ≤ v ∧ s = .int .i64 u ∧ ∃ q, wz = w8.drewN q) (fun s _ => v - (intOf s).toNat)
          case atStart => exact ⟨0, Nat.zero_le _, rfl, 0, rfl⟩
          case round =>
            obtain ⟨u, hu, rfl, q, rfl⟩ := hrel
            have HTB9 : Hid (Blk (w8.drewN q) tb 3 (natV (tpL T m th n (v + 1)))) := HTB8.out.drewN q
            have HM9 := Lib.hid (HM8.out.drewN q)
            by_cases huv : u < v
            · have e1 := blkN HTB8.out (i := u) (by rw [tpL_len (by omega)]; omega)
              rw [tpL_at (by omega)] at e1
              have hL9 : w8.ownsRow 0 3 1 (.slice al n cl) n (natV (labelsL T n m ls th)) := owns_mod HL6.out HM8.out (fun k hk e => HLN.out k hk e)
              obtain ⟨al', cl', b9, ee, hin, _⟩ := own_rowN hL9 (labels_len T n m ls th)
              injection ee with ee1 _ ee2
              subst ee1 ee2
              have f1 := hin.cell u (by omega)
              have f2 := hin.cell v hvn
              rw [nI_at (by rw [labels_len]; omega), labs_at (by omega), Nat.zero_add] at f1
              rw [nI_at (by rw [labels_len]; omega), labs_at (by omega), Nat.zero_add] at f2
              obtain rfl := hin.adr (by omega)
              have hiff := HTOP.out u (by omega)
              rw [HXV.out] at hiff f2
              generalize ls.getD (ab T m th u) 0 = y1 at *
              generalize ls.getD x 0 = y2 at *
              generalize ab T m th u = x1 at *
              have k1 : (u : Int) < (n : Int) := by omega
              have k2 : (0 : Int) ≤ (u : Int) := by omega
              have k3 : decide (u < v) = true := decide_eq_true huv
              clear hin hL9
              by_cases hxx : x1 = x
              · have k4 : ((x1 : Int) == (x : Int)) = true := by simp [hxx]
                have k5 : ((y1 : Int) == (y2 : Int)) = true := by simp [hiff.1 hxx]
                clear hxx hiff
                go_wp2_with fail
                go_quiet (fail)
                go_wp2_with fail
                go_roundw
                case rel => exact ⟨u + 1, by omega, by go_num, _, rfl⟩
                case measure => simp [intOf]; omega
              · have k4 : ((x1 : Int) == (x : Int)) = false := by simp; omega
                have k5 : ((y1 : Int) == (y2 : Int)) = false := by
                  have : y1 ≠ y2 := fun e => hxx (hiff.2 e)
                  simp; omega
                clear hxx hiff
                go_wp2_with fail
                go_quiet (fail)
                go_wp2_with fail
                go_roundw
                case rel => exact ⟨u + 1, by omega, by go_num, _, rfl⟩
                case measure => simp [intOf]; omega
            · obtain rfl : u = v := by omega
              have k3 : decide (u < u) = false := by simp
              go_wp2_with fail
              go_roundw
              case rel => exact ⟨u + 1, by omega, by go_num, HTB9.out, HM9.out⟩
              case measure => simp [intOf]; omega
    · obtain rfl : v = n := by omega
      go_wp2_with fail
      with_reducible refine (rworks_ok wr).mono ?_
      rintro e w9 ⟨rfl, hb⟩
      have HF := Lib.hid (bel_then (bel_mod HB6.out HMD.out (fun k e => by rw [e]; exact HTN.out)) hb)
      clear hb
      go_wp2_with fail
      go_ret
      exact ⟨rfl, HF.out⟩

end Go.Proofs.Ytenhbfbfkcjimaa
