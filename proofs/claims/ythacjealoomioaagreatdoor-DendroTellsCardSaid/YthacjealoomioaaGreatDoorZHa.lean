/- DrB, DrA, DrC, DrD. -/
import Derived.Test.YthacjealoomioaaGreatDoorZGr
import Derived.Test.YthacjealoomioaaGreatDoorZHf
import Derived.Test.YthacjealoomioaaGreatDoorZDmA
import Derived.Test.YthacjealoomioaaGreatDoorZDmC
/- The reference of layer 22: Gap. -/
namespace Go.Proofs.YthacjealoomioaaGreatDoor
set_option linter.unusedVariables false
set_option linter.unusedSimpArgs false
open Go.RowKit

set_option maxHeartbeats 4000000 in
set_option maxRecDepth 100000 in
theorem r22gap_ok (w : World) (A : TA) (t : Tr) (ht : TreeAt w A t) (hc : t.hgt.length ≤ A.h.c) (hmm : t.left.length ≤ 1000000) : Calls Tryz.prog 43 #[A.agg t] w (RetB (gapR t) w) := by
  have HT := Lib.hid ht
  have HC := Lib.hid hc
  have HB := Lib.hid (TBox.new w A t)
  have HW := Lib.hid (bel_alloc w (.cells #[.int .i64 t.lv, .slice A.l.o t.left.length A.l.c, .slice A.r.o t.right.length A.r.c, .slice A.p.o t.par.length A.p.c, .slice A.h.o t.hgt.length A.h.c, .slice A.s.o t.siz.length A.s.c] 27))
  have HT2 := Lib.hid (ht.below HW.out)
  have c0 := HB.out.c0
  have c1 := HB.out.c1
  have c2 := HB.out.c2
  have c3 := HB.out.c3
  have c4 := HB.out.c4
  have c5 := HB.out.c5
  clear ht hc
  show Calls _ _ #[.agg #[.int .i64 t.lv, .slice A.l.o t.left.length A.l.c, .slice A.r.o t.right.length A.r.c, .slice A.p.o t.par.length A.p.c, .slice A.h.o t.hgt.length A.h.c, .slice A.s.o t.siz.length A.s.c]] _ _
  go_enter Tryz.func43, Tryz.ntmps43
  go_wp2_with fail
  with_reducible refine (rvalid_ok _ A t HT2.out hmm).mono ?_
  rintro e w2 ⟨rfl, hb⟩
  have HW2 := Lib.hid (bel_then HW.out hb)
  have HB2 := Lib.hid (Blk.below HB.out hb (Blk.lt HB.out))
  have HT3 := Lib.hid (HT2.out.below hb)
  clear hb c0 c1 c2 c3 c4 c5
  cases hl : lsL t with
  | none =>
    have HR : Hid (gapR t = .tuple #[.int .i64 0, .int .u64 0, .int .i64 2]) := by show _ = _; unfold gapR; rw [hl]
    rw [okV_none hl]
    clear hl
    go_wp2_with fail
    try simp only [Exit.inBlock, Exit.then]
    refine bodyPost_ret (results_tmp3 rfl _ _ _) rfl ?_
    exact ⟨by rw [HR.out]; rfl, HW2.out⟩
  | some ls =>
    obtain ⟨n, hn, hv⟩ := tv_of hl
    obtain ⟨m, hm⟩ : ∃ m, t.par.length = m := ⟨_, rfl⟩
    have HR : Hid (gapR t = gapV t n m) := by show _ = _; unfold gapR; rw [hl]; simp only; rw [hn, hm, Int.toNat_natCast]
    rw [hm] at hv
    have hn4 := hv.hn
    have hm2 := hv.two
    have hnm := hv.nm
    rw [okV_some hl]
    have c0 := TBox.c0 HB2.out
    have c4 := TBox.c4 HB2.out
    rw [hn] at c0
    rw [hv.hl] at c4 HC
    have HSL : Hid (n < m → (if A.h.c = n then A.h.o else A.h.o.map (fun x => x.add n)) = some ⟨A.h.b, A.h.f + n, none⟩) := fun h => sliced_h HT3.out hv.hl HC.out h
    have HLEN : Hid (t.hgt.length = m) := hv.hl
    have g1 : (n : Int) ≤ (m : Int) := by omega
    clear hl hn hm hv
    go_upto_region 4 with fail
    obtain ⟨k, HK⟩ : ∃ k, Hid (m - n = k) := ⟨_, rfl⟩
    have ek : (m : Int) - (n : Int) = (k : Int) := by have := HK.out; omega
    generalize hso : (if A.h.c = n then A.h.o else Option.map (fun x => x.add n) A.h.o) = so at *
    rw [HK.out]
    clear hso c0 c4 g1 ek
    by_cases h2 : (k : Int) < 2
    · have t1 : decide ((k : Int) < 2) = true := decide_eq_true h2
      have HV : Hid (gapV t n m = .tuple #[.int .i64 0, .int .u64 0, .int .i64 5]) := by show _ = _; unfold gapV; rw [if_pos (by rw [HK.out]; omega)]
      clear h2
      go_wp2_with fail
      try simp only [Exit.inBlock, Exit.then]
      refine bodyPost_ret (results_tmp3 rfl _ _ _) rfl ?_
      exact ⟨by rw [HR.out, HV.out]; rfl, HW2.out⟩
    · have t1 : decide ((k : Int) < 2) = false := decide_eq_false h2
      have HV : Hid (gapV t n m = .tuple #[.int .i64 (gpA t n (k - 1) : Nat), .int .u64 (dU t n (gpA t n (k - 1))), .int .i64 0]) := by show _ = _; unfold gapV; rw [if_neg (by rw [HK.out]; omega), HK.out]
      have hk2 : 2 ≤ k := by omega
      have hk8 : k ≤ 8192 := by have := HK.out; omega
      have hso := HSL.out (by have := HK.out; omega)
      subst hso
      have HRD : Hid (∀ i, i < k → ∀ W, Below w2.heap.size w2 W → W.cell? ⟨A.h.b, A.h.f + n + i, none⟩ = some (.int .i64 (gi t.hgt (n + i)))) := fun i hi W hW => by
        have := ((HT3.out.below hW).h.get (i := n + i) (by rw [HLEN.out]; have := HK.out; omega)).2
        rw [Nat.add_assoc]
        exact this
      clear h2 HSL
      go_wp2_with fail
      clear t1
      go_loopw [6, 7] (fun a s wr => ∃ (i : Nat) (aa : Nat), 2 ≤ i ∧ i ≤ k ∧ s = .int .i64 (i : Int) ∧ a = .int .i64 (aa : Int) ∧ aa = gpA t n (i - 1) ∧ Below w2.heap.size w2 wr) (fun _ s _ => k - (intOf s).toNat)
      case atStart => exact ⟨2, 1, by omega, by omega, rfl, rfl, (gpA_one t n).symm, Below.refl _ _⟩
      case round =>
        obtain ⟨i, aa, hi1, hik, rfl, rfl, hg, hb⟩ := hrel
        have HG := Lib.hid hg
        have HBR := Lib.hid hb
        have hap := gpA_pos t n (i - 1)
        rw [← hg] at hap
        clear hg hb
        obtain ⟨ab, HAB⟩ : ∃ ab, Hid (aa - 1 = ab) := ⟨_, rfl⟩
        have eb : (aa : Int) - 1 = (ab : Int) := by have := HAB.out; omega
        have e3 := HRD.out aa (by omega) _ HBR.out
        have e4 := HRD.out ab (by have := HAB.out; omega) _ HBR.out
        have HDA : Hid (dU t n aa = IntKind.u64.wrap (IntKind.u64.wrap (gi t.hgt (n + aa)) - IntKind.u64.wrap (gi t.hgt (n + ab)))) := by show _ = _; unfold dU; rw [HAB.out]
        have v3 : IntKind.i64.wrap (ab : Int) = (ab : Int) := IntWalk.i64_in _ (by have := HAB.out; omega)
        have t7 : (aa : Int) < (k : Int) := by omega
        have t8 : (0 : Int) ≤ (aa : Int) := by omega
        have t9 : (ab : Int) < (k : Int) := by have := HAB.out; omega
        have t10 : (0 : Int) ≤ (ab : Int) := by omega
        obtain ⟨da, HDDA⟩ : ∃ d, Hid (IntKind.u64.wrap (IntKind.u64.wrap (gi t.hgt (n + aa)) - IntKind.u64.wrap (gi t.hgt (n + ab))) = d) := ⟨_, rfl⟩
        have HDA2 := Lib.hid (HDA.out.trans HDDA.out)
        by_cases hlt : i < k
        · have e1 := HRD.out i hlt _ HBR.out
          obtain ⟨j, HJ⟩ : ∃ j, Hid (i - 1 = j) := ⟨_, rfl⟩
          have e2 := HRD.out j (by have := HJ.out; omega) _ HBR.out
          have ej : (i : Int) - 1 = (j : Int) := by have := HJ.out; omega
          have HD : Hid (dU t n i = IntKind.u64.wrap (IntKind.u64.wrap (gi t.hgt (n + i)) - IntKind.u64.wrap (gi t.hgt (n + j)))) := by show _ = _; unfold dU; rw [HJ.out]
          obtain ⟨d, HDD⟩ : ∃ d, Hid (IntKind.u64.wrap (IntKind.u64.wrap (gi t.hgt (n + i)) - IntKind.u64.wrap (gi t.hgt (n + j))) = d) := ⟨_, rfl⟩
          have HST : Hid (gpA t n i = if da < d then i else aa) := by
            show _ = _
            obtain ⟨q, rfl⟩ : ∃ q, i = q + 1 := ⟨i - 1, by omega⟩
            have hq : aa = gpA t n q := HG.out
            rw [gpA, ← hq, HDA2.out, HD.out.trans HDD.out]
          have hj : j < k := by have := HJ.out; omega
          have v1 : IntKind.i64.wrap (j : Int) = (j : Int) := IntWalk.i64_in _ (by omega)
          have t1 : (i : Int) < (k : Int) := by omega
          have t2 : (0 : Int) ≤ (i : Int) := by omega
          have t3 : (j : Int) < (k : Int) := by omega
          have t4 : (0 : Int) ≤ (j : Int) := by omega
          generalize gi t.hgt (n + i) = x1 at *
          generalize gi t.hgt (n + j) = x2 at *
          generalize gi t.hgt (n + aa) = x3 at *
          generalize gi t.hgt (n + ab) = x4 at *
          by_cases hd : da < d
          · have HS2 : Hid (gpA t n i = i) := HST.out.trans (if_pos hd)
            have t5 : decide (IntKind.u64.wrap (IntKind.u64.wrap x3 - IntKind.u64.wrap x4) < IntKind.u64.wrap (IntKind.u64.wrap x1 - IntKind.u64.wrap x2)) = true := by rw [HDD.out, HDDA.out]; exact decide_eq_true hd
            clear hlt hj hd hap HD HDA HDA2 HJ HAB
            go_wp2_with fail
            go_quiet (fail)
            have HB7 := Lib.hid (bel_drewN HBR.out nq)
            generalize wr.drewN nq = w7 at HB7 ⊢
            clear e1 e2 e3 e4 HBR
            go_wp2_with fail
            go_roundw
            case rel => exact ⟨i + 1, i, by omega, by omega, by go_num, rfl, by rw [Nat.add_sub_cancel]; exact HS2.out.symm, HB7.out⟩
            case measure => simp [intOf]; omega
          · have HS2 : Hid (gpA t n i = aa) := HST.out.trans (if_neg hd)
            have t5 : decide (IntKind.u64.wrap (IntKind.u64.wrap x3 - IntKind.u64.wrap x4) < IntKind.u64.wrap (IntKind.u64.wrap x1 - IntKind.u64.wrap x2)) = false := by rw [HDD.out, HDDA.out]; exact decide_eq_false hd
            clear hlt hj hd hap HD HDA HDA2 HJ HAB
            go_wp2_with fail
            go_quiet (fail)
            have HB7 := Lib.hid (bel_drewN HBR.out nq)
            generalize wr.drewN nq = w7 at HB7 ⊢
            clear e1 e2 e3 e4 HBR
            go_wp2_with fail
            go_roundw
            case rel => exact ⟨i + 1, aa, by omega, by omega, by go_num, rfl, by rw [Nat.add_sub_cancel]; exact HS2.out.symm, HB7.out⟩
            case measure => simp [intOf]; omega
        · obtain rfl : i = k := by omega
          generalize gi t.hgt (n + aa) = x3 at *
          generalize gi t.hgt (n + ab) = x4 at *
          clear hap hlt HAB
          go_wp2_with fail
          go_quiet (fail)
          go_wp2_with fail
          try simp only [Exit.inBlock, Exit.then]
          refine bodyPost_ret (results_tmp3 rfl _ _ _) rfl ?_
          refine ⟨?_, bel_drewN (bel_then HW2.out HBR.out) nq⟩
          rw [HR.out, HV.out, ← HG.out, HDA.out]
          rfl

end Go.Proofs.YthacjealoomioaaGreatDoor

/- The reference of layer 22: least. -/
namespace Go.Proofs.YthacjealoomioaaGreatDoor
set_option linter.unusedVariables false
set_option linter.unusedSimpArgs false
open Go.RowKit

set_option maxHeartbeats 4000000 in
set_option maxRecDepth 100000 in
theorem r22least_ok (w : World) (A : TA) (t : Tr) (ht : TreeAt w A t) (n m : Nat) (ls : List Nat) (tv : TV t n m ls) (x : Nat) (hx : x < m) : Calls Tryz.prog 69 #[A.agg t, .int .i64 (x : Int)] w (RetB (.int .i64 ((ls.getD x 0 : Nat) : Int)) w) := by
  have HT := Lib.hid ht
  have HV := Lib.hid tv
  have HB := Lib.hid (TBox.new w A t)
  have HW := Lib.hid (bel_alloc w (.cells #[.int .i64 t.lv, .slice A.l.o t.left.length A.l.c, .slice A.r.o t.right.length A.r.c, .slice A.p.o t.par.length A.p.c, .slice A.h.o t.hgt.length A.h.c, .slice A.s.o t.siz.length A.s.c] 27))
  have HT2 := Lib.hid (ht.below HW.out)
  have c0 := HB.out.c0
  have c1 := HB.out.c1
  rw [tv.lv] at c0
  rw [tv.ll] at c1
  have HLL : Hid (t.left.length = m) := tv.ll
  clear ht tv
  show Calls _ _ #[.agg #[.int .i64 t.lv, .slice A.l.o t.left.length A.l.c, .slice A.r.o t.right.length A.r.c, .slice A.p.o t.par.length A.p.c, .slice A.h.o t.hgt.length A.h.c, .slice A.s.o t.siz.length A.s.c], _] _ _
  go_enter Tryz.func69, Tryz.ntmps69
  go_upto_region 1 with fail
  go_loopw [1] (fun s wr => ∃ y : Nat, y < m ∧ s = .int .i64 (y : Int) ∧ ls.getD y 0 = ls.getD x 0 ∧ TBox wr w.heap.size A t ∧ TreeAt wr A t ∧ Below w.heap.size w wr) (fun s _ => (intOf s).toNat)
  case atStart => exact ⟨x, hx, rfl, rfl, HB.out, HT2.out, HW.out⟩
  case round =>
    obtain ⟨y, hy, rfl, he, hbx, htr, hbl⟩ := hrel
    have HE := Lib.hid he
    have HBX := Lib.hid hbx
    have HTR := Lib.hid htr
    have HBL := Lib.hid hbl
    clear he hbx htr hbl c0 c1
    have c0 := TBox.c0 HBX.out
    have c1 := TBox.c1 HBX.out
    rw [HV.out.lv] at c0
    rw [HLL.out] at c1
    by_cases hyn : n ≤ y
    · have t1 : decide ((n : Int) ≤ (y : Int)) = true := decide_eq_true (by omega)
      have t2 : decide (n ≤ y) = true := decide_eq_true hyn
      have hma := HTR.out.mgAt HV.out hyn hy
      have HL : Hid (ls.getD (lc t y) 0 = ls.getD x 0) := (HV.out.ls1 y hyn hy).symm.trans HE.out
      have hlt : lc t y < y := by
        obtain ⟨⟨a, b, _⟩, _⟩ := HV.out.inn y hyn hy
        unfold lc; omega
      have k1 := hma.cl
      have hel := hma.el
      have hll := hma.ll
      generalize lc t y = l at *
      have d1 := c1
      rw [hel] at d1
      have g1 : (y : Int) < (m : Int) := by omega
      have g2 : (0 : Int) ≤ (y : Int) := by omega
      clear hma hel hyn c1
      go_wp2_with fail
      go_roundw
      case rel => exact ⟨l, hll, rfl, HL.out, HBX.out, HTR.out, HBL.out⟩
      case measure => simp [intOf]; omega
    · have t1 : decide ((n : Int) ≤ (y : Int)) = false := decide_eq_false (by omega)
      have t2 : decide (n ≤ y) = false := decide_eq_false hyn
      have HL : Hid (ls.getD x 0 = y) := HE.out.symm.trans (HV.out.ls0 y (by omega))
      clear hyn
      go_wp2_with fail
      go_ret
      rw [HL.out]
      exact ⟨rfl, HBL.out⟩

end Go.Proofs.YthacjealoomioaaGreatDoor

/- The reference of layer 22: has. -/
namespace Go.Proofs.YthacjealoomioaaGreatDoor
set_option linter.unusedVariables false
set_option linter.unusedSimpArgs false
open Go.RowKit

set_option maxHeartbeats 2000000 in
set_option maxRecDepth 100000 in
theorem r22has_ok (w : World) (ao : Option Addr) (len cap b off : Nat) (z : List Int) (hz : InRow .i64 w ao len b off z) (hl : len ≤ 1000000000) (x : Int) :
    Calls Tryz.prog 72 #[.slice ao len cap, .int .i64 x] w (RetB (.bool (decide (x ∈ z))) w) := by
  have HZ := Lib.hid hz
  clear hz
  go_enter Tryz.func72, Tryz.ntmps72
  go_wp2_with fail
  go_loopw [5] (fun s wr => ∃ i : Nat, i ≤ len ∧ s = .int .i64 (i : Int) ∧ (∀ j, j < i → z.getD j 0 ≠ x) ∧ Below w.heap.size w wr) (fun s _ => len - (intOf s).toNat)
  case atStart => exact ⟨0, Nat.zero_le _, rfl, fun j hj => by omega, Below.refl _ _⟩
  case round =>
    obtain ⟨i, hi, rfl, hno, hb⟩ := hrel
    have HNO := Lib.hid hno
    have HB := Lib.hid hb
    have HZ2 := Lib.hid (HZ.out.below hb)
    clear hno hb
    by_cases hil : i < len
    · have c0 := HZ2.out.cell i hil
      have ha := HZ2.out.adr (by omega)
      have HIN : Hid (z.getD i 0 ∈ z) := by
        have : i < z.length := by rw [HZ.out.size]; exact hil
        show _ ∈ _
        rw [List.getD_eq_getElem?_getD, List.getElem?_eq_getElem this]
        exact List.getElem_mem this
      have HSUC : Hid (z.getD i 0 ≠ x → ∀ j, j < i + 1 → z.getD j 0 ≠ x) := fun h j hj => by
        by_cases e : j < i
        · exact HNO.out j e
        · obtain rfl : j = i := by omega
          exact h
      generalize z.getD i 0 = y at *
      subst ha
      have t1 : (i : Int) < (len : Int) := by omega
      have t2 : (0 : Int) ≤ (i : Int) := by omega
      by_cases hy : y = x
      · subst hy
        have HR : Hid (decide (y ∈ z) = true) := decide_eq_true HIN.out
        have t3 : (y == y) = true := by simp
        clear hil
        go_wp2_with fail
        go_ret
        rw [HR.out]
        exact ⟨rfl, HB.out⟩
      · have t3 : (y == x) = false := by simp; exact hy
        have HS2 := Lib.hid (HSUC.out hy)
        clear hil hy
        go_wp2_with fail
        go_roundw
        case rel => exact ⟨i + 1, by omega, by go_num, HS2.out, HB.out⟩
        case measure => simp [intOf]; omega
    · obtain rfl : i = len := by omega
      have HR : Hid (decide (x ∈ z) = false) := decide_eq_false fun hm => by
        obtain ⟨j, hj, e⟩ := List.getElem_of_mem hm
        refine HNO.out j (by rw [← HZ.out.size]; exact hj) ?_
        rw [List.getD_eq_getElem?_getD, List.getElem?_eq_getElem hj, e]; rfl
      clear hil
      go_wp2_with fail
      go_ret
      rw [HR.out]
      exact ⟨rfl, HB.out⟩

end Go.Proofs.YthacjealoomioaaGreatDoor

/- The reference of layer 22: Cophenetic. -/
namespace Go.Proofs.YthacjealoomioaaGreatDoor
set_option linter.unusedVariables false
set_option linter.unusedSimpArgs false
open Go.RowKit

theorem bl_leafD {t : Tr} {n m : Nat} {ls : List Nat} (h : TV t n m ls) {d a : Nat} (hd : d < n) (ha : a < n) (hb : bl t m d a = true) : a = d := by
  have hnm := h.nm
  rcases h.par (x := a) (by omega) with e | ⟨p, e, _, h2, h3, _⟩
  · rw [bl_root h (by omega) (by omega)] at hb
    exact of_decide_eq_true hb
  · rw [bl_par h (by omega) e, Bool.or_eq_true, decide_eq_true_eq] at hb
    rcases hb with hb | hb
    · exact hb
    · have := bl_le h p h3 hb
      omega

set_option maxHeartbeats 4000000 in
set_option maxRecDepth 100000 in
theorem r22coph_ok (w : World) (A : TA) (t : Tr) (ht : TreeAt w A t) (hmm : t.left.length ≤ 1000000) (a b : Int) : Calls Tryz.prog 44 #[A.agg t, .int .i64 a, .int .i64 b] w (RetB (copR (copO t a b)) w) := by
  have HT := Lib.hid ht
  have HB := Lib.hid (TBox.new w A t)
  have HW := Lib.hid (bel_alloc w (.cells #[.int .i64 t.lv, .slice A.l.o t.left.length A.l.c, .slice A.r.o t.right.length A.r.c, .slice A.p.o t.par.length A.p.c, .slice A.h.o t.hgt.length A.h.c, .slice A.s.o t.siz.length A.s.c] 27))
  have HT2 := Lib.hid (ht.below HW.out)
  have c0 := HB.out.c0
  have c1 := HB.out.c1
  have c2 := HB.out.c2
  have c3 := HB.out.c3
  have c4 := HB.out.c4
  have c5 := HB.out.c5
  clear ht
  show Calls _ _ #[.agg #[.int .i64 t.lv, .slice A.l.o t.left.length A.l.c, .slice A.r.o t.right.length A.r.c, .slice A.p.o t.par.length A.p.c, .slice A.h.o t.hgt.length A.h.c, .slice A.s.o t.siz.length A.s.c], _, _] _ _
  go_enter Tryz.func44, Tryz.ntmps44
  go_wp2_with fail
  with_reducible refine (rvalid_ok _ A t HT2.out hmm).mono ?_
  rintro e w2 ⟨rfl, hb⟩
  have HW2 := Lib.hid (bel_then HW.out hb)
  have HB2 := Lib.hid (Blk.below HB.out hb (Blk.lt HB.out))
  have HT3 := Lib.hid (HT2.out.below hb)
  clear hb c0 c1 c2 c3 c4 c5
  cases hl : lsL t with
  | none =>
    have HR : Hid (copO t a b = none) := by show _ = _; unfold copO; rw [hl]
    rw [okV_none hl]
    clear hl
    go_wp2_with fail
    go_ret2
    exact ⟨by rw [HR.out]; rfl, HW2.out⟩
  | some ls =>
    obtain ⟨n, hn, hv⟩ := tv_of hl
    obtain ⟨m, hm⟩ : ∃ m, t.par.length = m := ⟨_, rfl⟩
    have HR : Hid (copO t a b = if a < 0 ∨ (n : Int) ≤ a ∨ b < 0 ∨ (n : Int) ≤ b then none else if a = b then some (-9223372036854775808) else (comV t m a.toNat b.toNat).map fun c => gi t.hgt c) := by show _ = _; unfold copO; rw [hl]; simp only; rw [hn, hm]
    rw [hm] at hv
    have HV := Lib.hid hv
    have HM := Lib.hid hm
    rw [okV_some hl]
    have HL0 := Lib.hid hl
    have c0 := TBox.c0 HB2.out
    have c3 := TBox.c3 HB2.out
    rw [hn] at c0
    rw [hm] at c3
    clear hl hn hm hv
    by_cases a1 : a < 0
    · have t1 : decide (a < 0) = true := decide_eq_true a1
      have HR2 : Hid (copO t a b = none) := by show _ = _; rw [HR.out, if_pos (by omega)]
      clear a1
      go_wp2_with fail
      go_ret2
      exact ⟨by rw [HR2.out]; rfl, HW2.out⟩
    have t1 : decide (a < 0) = false := decide_eq_false a1
    by_cases a3 : b < 0
    · have t3 : decide (b < 0) = true := decide_eq_true a3
      have HR2 : Hid (copO t a b = none) := by show _ = _; rw [HR.out, if_pos (by omega)]
      clear a1 a3
      go_wp2_with fail
      go_ret2
      exact ⟨by rw [HR2.out]; rfl, HW2.out⟩
    have t3 : decide (b < 0) = false := decide_eq_false a3
    by_cases a2 : (n : Int) ≤ a
    · have t2 : decide ((n : Int) ≤ a) = true := decide_eq_true a2
      have HR2 : Hid (copO t a b = none) := by show _ = _; rw [HR.out, if_pos (by omega)]
      clear a1 a2 a3
      go_wp2_with fail
      go_ret2
      exact ⟨by rw [HR2.out]; rfl, HW2.out⟩
    have t2 : decide ((n : Int) ≤ a) = false := decide_eq_false a2
    by_cases a4 : (n : Int) ≤ b
    · have t4 : decide ((n : Int) ≤ b) = true := decide_eq_true a4
      have HR2 : Hid (copO t a b = none) := by show _ = _; rw [HR.out, if_pos (by omega)]
      clear a1 a2 a3 a4
      go_wp2_with fail
      go_ret2
      exact ⟨by rw [HR2.out]; rfl, HW2.out⟩
    have t4 : decide ((n : Int) ≤ b) = false := decide_eq_false a4
    obtain ⟨x, rfl⟩ := Int.eq_ofNat_of_zero_le (show 0 ≤ a by omega)
    obtain ⟨y, rfl⟩ := Int.eq_ofNat_of_zero_le (show 0 ≤ b by omega)
    have HX : Hid (x < n) := by show _ < _; omega
    have HY : Hid (y < n) := by show _ < _; omega
    have t2n : decide (n ≤ x) = false := decide_eq_false (by omega)
    have t4n : decide (n ≤ y) = false := decide_eq_false (by omega)
    by_cases e : x = y
    · subst e
      have t5 : ((x : Int) == (x : Int)) = true := by simp
      have HR2 : Hid (copO t x x = some (-9223372036854775808)) := by show _ = _; rw [HR.out, if_neg (by omega), if_pos rfl]
      clear a1 a2 a3 a4
      go_wp2_with fail
      go_ret2
      exact ⟨by rw [HR2.out]; rfl, HW2.out⟩
    · have t5 : ((x : Int) == (y : Int)) = false := by simp; omega
      have HNE := Lib.hid e
      have HR2 : Hid (copO t x y = (comV t m x y).map fun c => gi t.hgt c) := by show _ = _; rw [HR.out, if_neg (by omega), if_neg (by omega), Int.toNat_natCast, Int.toNat_natCast]
      clear a1 a2 a3 a4 e
      go_wp2_with fail
      clear t1 t2 t3 t4 t2n t4n c0 c3
      have hn4 := HV.out.hn
      have hm2 := HV.out.two
      have hnm := HV.out.nm
      go_loopw [8] (fun s wr => ∃ i : Nat, n ≤ i ∧ i ≤ m ∧ s = .int .i64 (i : Int) ∧ (∀ d, d < i → ¬ (bl t m d x = true ∧ bl t m d y = true)) ∧ Below w2.heap.size w2 wr) (fun s _ => m - (intOf s).toNat)
      case atStart =>
        refine ⟨n, Nat.le_refl _, hnm, rfl, fun d hd hc => ?_, Below.refl _ _⟩
        have h1 := bl_leafD HV.out hd HX.out hc.1
        have h2 := bl_leafD HV.out hd HY.out hc.2
        exact HNE.out (h1.trans h2.symm)
      case round =>
        obtain ⟨i, hni, him, rfl, hno, hb⟩ := hrel
        have HNO := Lib.hid hno
        have HBR := Lib.hid (Blk.below HB2.out hb (Blk.lt HB2.out))
        have HTR := Lib.hid (HT3.out.below hb)
        have HWR := Lib.hid (bel_then HW2.out hb)
        have HBL := Lib.hid hb
        clear hno hb
        have c1 := TBox.c1 HBR.out
        rw [HV.out.ll] at c1
        by_cases hlt : i < m
        · have t1 : (i : Int) < (m : Int) := by omega
          have HLV : Hid (leavesO t (i : Int) = some (leavesL t n m i)) := by
            show _ = _
            rw [leavesO_some HL0.out (by rw [HM.out]; omega), HM.out, Int.toNat_natCast, HV.out.lv, Int.toNat_natCast]
          have c0 := TBox.c0 HBR.out
          have c2 := TBox.c2 HBR.out
          have c3 := TBox.c3 HBR.out
          have c4 := TBox.c4 HBR.out
          have c5 := TBox.c5 HBR.out
          rw [HV.out.ll] at *
          have hlt2 := hlt
          clear hlt
          go_wp2_with fail
          have hcon := rleaves_ok wr A t HTR.out (by rw [HV.out.ll]; omega) (i : Int)
          rw [TA.agg, HV.out.ll] at hcon
          with_reducible refine hcon.mono ?_
          rintro e w4 hp
          have hr := hp.row
          have hb := hp.bel
          rw [HLV.out] at hr
          obtain ⟨la, lcap, lb, rfl, hlr⟩ := hr
          have HLR := Lib.hid hlr
          have HBR4 := Lib.hid (Blk.below HBR.out hb (Blk.lt HBR.out))
          have HTR4 := Lib.hid (HTR.out.below hb)
          have HWR4 := Lib.hid (bel_then HWR.out hb)
          have HBL4 := Lib.hid (bel_then HBL.out hb)
          clear hp hb hlr hcon c0 c1 c2 c3 c4 c5
          have HMEM : Hid (∀ q : Nat, q < n → ((q : Int) ∈ nI (leavesL t n m i) ↔ bl t m i q = true)) := fun q hq => by
            unfold nI
            rw [List.mem_map]
            constructor
            · rintro ⟨v, hv, e⟩
              obtain rfl : v = q := by omega
              exact (lv_mem.1 hv).2
            · intro h
              exact ⟨q, lv_mem.2 ⟨hq, h⟩, rfl⟩
          have hle : (leavesL t n m i).length ≤ 1000000000 := by
            have h2 := List.length_filter_le (fun v => bl t m i v) (List.range n)
            rw [List.length_range] at h2
            unfold leavesL; omega
          simp only [Option.getD_some] at HLR ⊢
          obtain ⟨LL, HLLn⟩ : ∃ LL, Hid ((leavesL t n m i).length = LL) := ⟨_, rfl⟩
          rw [HLLn.out] at HLR hle ⊢
          go_wp2_with fail
          with_reducible refine (r22has_ok w4 la LL lcap lb 0 _ HLR.out hle (x : Int)).mono ?_
          rintro e w5 ⟨rfl, hb⟩
          have HLR5 := Lib.hid (HLR.out.below hb)
          have HBR5 := Lib.hid (Blk.below HBR4.out hb (Blk.lt HBR4.out))
          have HTR5 := Lib.hid (HTR4.out.below hb)
          have HWR5 := Lib.hid (bel_then HWR4.out hb)
          have HBL5 := Lib.hid (bel_then HBL4.out hb)
          clear hb
          by_cases hx : bl t m i x = true
          · rw [decide_eq_true ((HMEM.out x HX.out).2 hx)]
            have HXB := Lib.hid hx
            clear hx
            go_wp2_with fail
            with_reducible refine (r22has_ok w5 la LL lcap lb 0 _ HLR5.out hle (y : Int)).mono ?_
            rintro e w6 ⟨rfl, hb⟩
            have HBR6 := Lib.hid (Blk.below HBR5.out hb (Blk.lt HBR5.out))
            have HTR6 := Lib.hid (HTR5.out.below hb)
            have HWR6 := Lib.hid (bel_then HWR5.out hb)
            have HBL6 := Lib.hid (bel_then HBL5.out hb)
            clear hb
            by_cases hy : bl t m i y = true
            · rw [decide_eq_true ((HMEM.out y HY.out).2 hy)]
              have hcv : comV t m x y = some i := comV_some.2 ⟨hlt2, HXB.out, hy, fun d hd p1 p2 => by
                apply Classical.byContradiction
                intro hc
                exact HNO.out d (by omega) ⟨p1, p2⟩⟩
              have HR3 : Hid (copO t x y = some (gi t.hgt i)) := by show _ = _; rw [HR2.out, hcv]; rfl
              have c4 := TBox.c4 HBR6.out
              obtain ⟨e4, d4⟩ := HTR6.out.h.get (i := i) (by rw [HV.out.hl]; exact hlt2)
              rw [e4, HV.out.hl] at c4
              have g2 : (0 : Int) ≤ (i : Int) := by omega
              clear hy hcv e4 hlt2
              go_wp2_with fail
              go_ret2
              exact ⟨by rw [HR3.out]; rfl, HWR6.out⟩
            · rw [decide_eq_false (fun h => hy ((HMEM.out y HY.out).1 h))]
              have HNO2 : Hid (∀ d, d < i + 1 → ¬ (bl t m d x = true ∧ bl t m d y = true)) := fun d hd hc => by
                by_cases e : d < i
                · exact HNO.out d e hc
                · obtain rfl : d = i := by omega
                  exact hy hc.2
              clear hy hlt2
              go_wp2_with fail
              go_roundw
              case rel => exact ⟨i + 1, by omega, by omega, by go_num, HNO2.out, HBL6.out⟩
              case measure => simp [intOf]; omega
          · rw [decide_eq_false (fun h => hx ((HMEM.out x HX.out).1 h))]
            have HNO2 : Hid (∀ d, d < i + 1 → ¬ (bl t m d x = true ∧ bl t m d y = true)) := fun d hd hc => by
              by_cases e : d < i
              · exact HNO.out d e hc
              · obtain rfl : d = i := by omega
                exact hx hc.1
            clear hx hlt2
            go_wp2_with fail
            go_roundw
            case rel => exact ⟨i + 1, by omega, by omega, by go_num, HNO2.out, HBL5.out⟩
            case measure => simp [intOf]; omega
        · obtain rfl : i = m := by omega
          have hnone : comV t i x y = none := comV_none.2 fun d hd p1 p2 => HNO.out d hd ⟨p1, p2⟩
          have HR3 : Hid (copO t x y = none) := by show _ = _; rw [HR2.out, hnone]; rfl
          clear hnone hlt
          go_wp2_with fail
          go_ret2
          exact ⟨by rw [HR3.out]; rfl, HWR.out⟩

end Go.Proofs.YthacjealoomioaaGreatDoor
