/- DmB, DmD. -/
import Derived.Test.YthacjealoomioaaGreatDoorZDmA
import Derived.Test.YthacjealoomioaaGreatDoorZGb
import Derived.Test.YthacjealoomioaaGreatDoorZGj
/- dendro.Gap of the program. -/
namespace Go.Proofs.YthacjealoomioaaGreatDoor
set_option linter.unusedVariables false
set_option linter.unusedSimpArgs false
open Go.RowKit

/-- How far a height is above the one before it. -/
def dU (t : Tr) (n i : Nat) : Int := IntKind.u64.wrap (IntKind.u64.wrap (gi t.hgt (n + i)) - IntKind.u64.wrap (gi t.hgt (n + (i - 1))))
/-- The place of the greatest of the first j of them. -/
def gpA (t : Tr) (n : Nat) : Nat → Nat
  | 0 => 1
  | j + 1 => if dU t n (gpA t n j) < dU t n (j + 1) then j + 1 else gpA t n j
theorem dU_nonneg (t : Tr) (n i : Nat) : 0 ≤ dU t n i := by
  unfold dU IntKind.wrap
  simp [IntKind.signed, IntKind.bits]
  omega
theorem gpA_one (t : Tr) (n : Nat) : gpA t n 1 = 1 := by
  show (if dU t n 1 < dU t n 1 then _ else _) = _
  rw [if_neg (by omega)]; rfl
def gapV (t : Tr) (n m : Nat) : Value := if m - n < 2 then .tuple #[.int .i64 0, .int .u64 0, .int .i64 5] else .tuple #[.int .i64 (gpA t n (m - n - 1) : Nat), .int .u64 (dU t n (gpA t n (m - n - 1))), .int .i64 0]
/-- What Gap returns. -/
def gapR (t : Tr) : Value := match lsL t with | none => .tuple #[.int .i64 0, .int .u64 0, .int .i64 2] | some _ => gapV t t.lv.toNat t.par.length

theorem sliced_h {w : World} {A : TA} {t : Tr} {n m : Nat} (h : TreeAt w A t) (hm : t.hgt.length = m) (hc : m ≤ A.h.c) (hn : n < m) : (if A.h.c = n then A.h.o else A.h.o.map (fun x => x.add n)) = some ⟨A.h.b, A.h.f + n, none⟩ := by
  rw [if_neg (by omega), h.h.adr (by omega)]
  show some (Addr.add _ _) = _
  simp [Addr.add]

/-- The place and the distance when the heights before the i-th have been seen. -/
def GapI (t : Tr) (n i : Nat) (a : Nat) (by_ : Int) : Prop := a = gpA t n (i - 1) ∧ (by_ = dU t n a ∨ (i = 1 ∧ by_ = 0))
theorem GapI.yes {t : Tr} {n i a : Nat} {b : Int} (h : GapI t n i a b) (hi : 1 ≤ i) (hd : b < dU t n i) : GapI t n (i + 1) i (dU t n i) := by
  obtain ⟨rfl, h2⟩ := h
  refine ⟨?_, .inl rfl⟩
  obtain ⟨j, rfl⟩ : ∃ j, i = j + 1 := ⟨i - 1, by omega⟩
  rw [Nat.add_sub_cancel] at *
  rcases h2 with e | ⟨e, _⟩
  · rw [gpA, if_pos (by rw [← e]; exact hd)]
  · obtain rfl : j = 0 := by omega
    exact (gpA_one t n).symm
theorem GapI.no {t : Tr} {n i a : Nat} {b : Int} (h : GapI t n i a b) (hi : 1 ≤ i) (hd : ¬ b < dU t n i) : GapI t n (i + 1) a b := by
  obtain ⟨rfl, h2⟩ := h
  obtain ⟨j, rfl⟩ : ∃ j, i = j + 1 := ⟨i - 1, by omega⟩
  rw [Nat.add_sub_cancel] at *
  rcases h2 with e | ⟨e1, e2⟩
  · refine ⟨?_, .inl e⟩
    show _ = gpA t n (j + 1)
    rw [gpA, if_neg (by rw [← e]; exact hd)]
  · obtain rfl : j = 0 := by omega
    have h0 := dU_nonneg t n 1
    refine ⟨(gpA_one t n).symm, .inl ?_⟩
    show b = dU t n 1
    have : ¬ b < dU t n 1 := hd
    omega

set_option maxHeartbeats 4000000 in
set_option maxRecDepth 100000 in
theorem gap_ok (w : World) (A : TA) (t : Tr) (ht : TreeAt w A t) (hc : t.hgt.length ≤ A.h.c) : Calls Tryz.prog 24 #[A.agg t] w (RetB (gapR t) w) := by
  have HT := Lib.hid ht
  have HC := Lib.hid hc
  have HB := Lib.hid (TBox.new w A t)
  have HW := Lib.hid (bel_alloc w (.cells #[.int .i64 t.lv, .slice A.l.o t.left.length A.l.c, .slice A.r.o t.right.length A.r.c, .slice A.p.o t.par.length A.p.c, .slice A.h.o t.hgt.length A.h.c, .slice A.s.o t.siz.length A.s.c] 27))
  have HT2 := Lib.hid (ht.below HW.out)
  have c0 := HB.out.c0
  have c1 := HB.out.c1
  have c2 := HB.out.c2
  have c3 := HB.out.c3
  have c4 := HB.out.c4
  have c5 := HB.out.c5
  clear ht hc
  show Calls _ _ #[.agg #[.int .i64 t.lv, .slice A.l.o t.left.length A.l.c, .slice A.r.o t.right.length A.r.c, .slice A.p.o t.par.length A.p.c, .slice A.h.o t.hgt.length A.h.c, .slice A.s.o t.siz.length A.s.c]] _ _
  go_enter Tryz.func24, Tryz.ntmps24
  go_wp2_with fail
  with_reducible refine (check_ok _ A t HT2.out).mono ?_
  rintro e w2 ⟨rfl, hb⟩
  have HW2 := Lib.hid (bel_then HW.out hb)
  have HB2 := Lib.hid (Blk.below HB.out hb (Blk.lt HB.out))
  have HT3 := Lib.hid (HT2.out.below hb)
  clear hb c0 c1 c2 c3 c4 c5
  cases hl : lsL t with
  | none =>
    have HR : Hid (gapR t = .tuple #[.int .i64 0, .int .u64 0, .int .i64 2]) := by show _ = _; unfold gapR; rw [hl]
    rw [chk_none hl]
    clear hl
    go_wp2_with fail
    try simp only [Exit.inBlock, Exit.then]
    refine bodyPost_ret (results_tmp3 rfl _ _ _) rfl ?_
    exact ⟨by rw [HR.out]; rfl, HW2.out⟩
  | some ls =>
    obtain ⟨n, hn, hv⟩ := tv_of hl
    obtain ⟨m, hm⟩ : ∃ m, t.par.length = m := ⟨_, rfl⟩
    have HR : Hid (gapR t = gapV t n m) := by show _ = _; unfold gapR; rw [hl]; simp only; rw [hn, hm, Int.toNat_natCast]
    rw [hm] at hv
    have hn4 := hv.hn
    have hm2 := hv.two
    have hnm := hv.nm
    rw [chk_some hl]
    have c0 := TBox.c0 HB2.out
    have c4 := TBox.c4 HB2.out
    rw [hn] at c0
    rw [hv.hl] at c4 HC
    have HSL : Hid (n < m → (if A.h.c = n then A.h.o else A.h.o.map (fun x => x.add n)) = some ⟨A.h.b, A.h.f + n, none⟩) := fun h => sliced_h HT3.out hv.hl HC.out h
    have HLEN : Hid (t.hgt.length = m) := hv.hl
    have g1 : (n : Int) ≤ (m : Int) := by omega
    clear hl hn hm hv
    go_upto_region 5 with fail
    obtain ⟨k, HK⟩ : ∃ k, Hid (m - n = k) := ⟨_, rfl⟩
    have ek : (m : Int) - (n : Int) = (k : Int) := by have := HK.out; omega
    generalize hso : (if A.h.c = n then A.h.o else Option.map (fun x => x.add n) A.h.o) = so at *
    rw [HK.out]
    clear hso c0 c4 g1 ek
    by_cases h2 : (k : Int) < 2
    · have t1 : decide ((k : Int) < 2) = true := decide_eq_true h2
      have HV : Hid (gapV t n m = .tuple #[.int .i64 0, .int .u64 0, .int .i64 5]) := by show _ = _; unfold gapV; rw [if_pos (by rw [HK.out]; omega)]
      clear h2
      go_wp2_with fail
      try simp only [Exit.inBlock, Exit.then]
      refine bodyPost_ret (results_tmp3 rfl _ _ _) rfl ?_
      exact ⟨by rw [HR.out, HV.out]; rfl, HW2.out⟩
    · have t1 : decide ((k : Int) < 2) = false := decide_eq_false h2
      have HV : Hid (gapV t n m = .tuple #[.int .i64 (gpA t n (k - 1) : Nat), .int .u64 (dU t n (gpA t n (k - 1))), .int .i64 0]) := by show _ = _; unfold gapV; rw [if_neg (by rw [HK.out]; omega), HK.out]
      have hk2 : 2 ≤ k := by omega
      have hk8 : k ≤ 8192 := by have := HK.out; omega
      have hso := HSL.out (by have := HK.out; omega)
      subst hso
      have HRD : Hid (∀ i, i < k → ∀ W, Below w2.heap.size w2 W → W.cell? ⟨A.h.b, A.h.f + n + i, none⟩ = some (.int .i64 (gi t.hgt (n + i)))) := fun i hi W hW => by
        have := ((HT3.out.below hW).h.get (i := n + i) (by rw [HLEN.out]; have := HK.out; omega)).2
        rw [Nat.add_assoc]
        exact this
      clear h2 HSL
      go_wp2_with fail
      clear t1
      go_loopw [2, 3, 7] (fun a b s wr => ∃ (i : Nat) (aa : Nat) (bb : Int), 1 ≤ i ∧ i ≤ k ∧ s = .int .i64 (i : Int) ∧ a = .int .i64 (aa : Int) ∧ b = .int .u64 bb ∧ GapI t n i aa bb ∧ Below w2.heap.size w2 wr) (fun _ _ s _ => k - (intOf s).toNat)
      case atStart => exact ⟨1, 1, 0, by omega, by omega, rfl, rfl, rfl, ⟨rfl, .inr ⟨rfl, rfl⟩⟩, Below.refl _ _⟩
      case round =>
        obtain ⟨i, aa, bb, hi1, hik, rfl, rfl, rfl, hg, hb⟩ := hrel
        have HG := Lib.hid hg
        have HBR := Lib.hid hb
        clear hg hb
        by_cases hlt : i < k
        · have e1 := HRD.out i hlt _ HBR.out
          obtain ⟨j, HJ⟩ : ∃ j, Hid (i - 1 = j) := ⟨_, rfl⟩
          have e2 := HRD.out j (by have := HJ.out; omega) _ HBR.out
          have HD : Hid (dU t n i = IntKind.u64.wrap (IntKind.u64.wrap (gi t.hgt (n + i)) - IntKind.u64.wrap (gi t.hgt (n + j)))) := by show _ = _; unfold dU; rw [HJ.out]
          have ej : (i : Int) - 1 = (j : Int) := by have := HJ.out; omega
          have HY := Lib.hid (HG.out.yes hi1)
          have HN := Lib.hid (HG.out.no hi1)
          rw [HD.out] at HY HN
          have hj : j < k := by have := HJ.out; omega
          generalize gi t.hgt (n + i) = x at *
          generalize gi t.hgt (n + j) = y at *
          obtain ⟨d, HDD⟩ : ∃ d, Hid (IntKind.u64.wrap (IntKind.u64.wrap x - IntKind.u64.wrap y) = d) := ⟨_, rfl⟩
          rw [HDD.out] at HY HN
          have t1 : (i : Int) < (k : Int) := by omega
          have t2 : (0 : Int) ≤ (i : Int) := by omega
          have t3 : (j : Int) < (k : Int) := by omega
          have t4 : (0 : Int) ≤ (j : Int) := by omega
          have v1 : IntKind.i64.wrap (j : Int) = (j : Int) := IntWalk.i64_in _ (by have := HK.out; omega)
          clear HD HJ HG hlt hj
          go_wp2_with fail
          go_quiet (fail)
          rw [HDD.out]
          have HB7 := Lib.hid (bel_drewN HBR.out nq)
          generalize wr.drewN nq = w7 at HB7 ⊢
          clear e1 e2 HBR
          by_cases hd : bb < d
          · have t5 : decide (bb < d) = true := decide_eq_true hd
            have HY2 := Lib.hid (HY.out hd)
            clear hd HY HN
            go_wp2_with fail
            go_roundw
            case rel => exact ⟨i + 1, i, d, by omega, by omega, by go_num, rfl, rfl, HY2.out, HB7.out⟩
            case measure => simp [intOf]; omega
          · have t5 : decide (bb < d) = false := decide_eq_false hd
            have HN2 := Lib.hid (HN.out (by omega))
            clear hd HY HN
            go_wp2_with fail
            go_roundw
            case rel => exact ⟨i + 1, aa, bb, by omega, by omega, by go_num, rfl, rfl, HN2.out, HB7.out⟩
            case measure => simp [intOf]; omega
        · obtain rfl : i = k := by omega
          go_wp2_with fail
          try simp only [Exit.inBlock, Exit.then]
          refine bodyPost_ret (results_tmp3 rfl _ _ _) rfl ?_
          obtain ⟨g1, g2⟩ := HG.out
          have g3 : bb = dU t n aa := by
            rcases g2 with e | ⟨e, _⟩
            · exact e
            · omega
          refine ⟨?_, bel_then HW2.out HBR.out⟩
          rw [HR.out, HV.out, g3, g1]
          rfl

end Go.Proofs.YthacjealoomioaaGreatDoor

/- dendro.Cut of the program. -/
namespace Go.Proofs.YthacjealoomioaaGreatDoor
set_option linter.unusedVariables false
set_option linter.unusedSimpArgs false
open Go.RowKit

/-- The labels when the nodes below ce are made. -/
def cutL (t : Tr) (n m : Nat) (ls : List Nat) (ce : Nat) : List Nat := (List.range n).map fun v => ls.getD (ix t m ce v) 0

/-- The labels from the end down to j. -/
def ctTo (t : Tr) (m : Nat) (ls : List Nat) (ce : Nat) (j : Nat) : List Nat := (List.range m).map fun x => if j ≤ x then ls.getD (ix t m ce x) 0 else ls.getD x 0

theorem ctTo_length (t : Tr) (m : Nat) (ls : List Nat) (ce : Nat) (j : Nat) : (ctTo t m ls ce j).length = m := by simp [ctTo]

theorem ctTo_get {t : Tr} {m : Nat} {ls : List Nat} {ce : Nat} {j x : Nat} (hx : x < m) : (ctTo t m ls ce j)[x]? = some (if j ≤ x then ls.getD (ix t m ce x) 0 else ls.getD x 0) := by
  unfold ctTo
  rw [List.getElem?_map, List.getElem?_range hx]
  rfl

theorem ctTo_at {t : Tr} {m : Nat} {ls : List Nat} {ce : Nat} {j x : Nat} (hx : x < m) : (ctTo t m ls ce j).getD x 0 = if j ≤ x then ls.getD (ix t m ce x) 0 else ls.getD x 0 := by
  rw [List.getD_eq_getElem?_getD, ctTo_get hx]; rfl

theorem ctTo_end {t : Tr} {m : Nat} {ls : List Nat} {ce : Nat} (hl : ls.length = m) : ctTo t m ls ce m = ls := by
  apply List.ext_getElem?
  intro i
  by_cases hi : i < m
  · rw [ctTo_get hi, if_neg (by omega), List.getD_eq_getElem?_getD, List.getElem?_eq_getElem (by omega)]; rfl
  · rw [List.getElem?_eq_none (by rw [ctTo_length]; omega), List.getElem?_eq_none (by omega)]

theorem ctTo_zero {t : Tr} {n m : Nat} {ls : List Nat} {ce : Nat} (hnm : n ≤ m) : (ctTo t m ls ce 0).take n = cutL t n m ls ce := by
  unfold ctTo cutL
  rw [← List.map_take, List.take_range, Nat.min_eq_left hnm]
  apply List.map_congr_left
  intro x _
  rw [if_pos (Nat.zero_le _)]

theorem ctTo_step {t : Tr} {n m : Nat} {ls : List Nat} (h : TV t n m ls) {ce : Nat} {j : Nat} (hj : j < m) :
    (∀ p : Nat, gi t.par j = p → p < ce → (ctTo t m ls ce (j + 1)).set j ((ctTo t m ls ce (j + 1)).getD p 0) = ctTo t m ls ce j) ∧
    ((gi t.par j < 0 ∨ ∃ p : Nat, gi t.par j = p ∧ ¬ p < ce) → ctTo t m ls ce (j + 1) = ctTo t m ls ce j) := by
  have key : ∀ b, ls.getD (ix t m ce j) 0 = b → (ctTo t m ls ce (j + 1)).set j b = ctTo t m ls ce j := by
    intro b hb
    apply List.ext_getElem?
    intro i
    by_cases hi : i < m
    · rw [ctTo_get (j := j) hi]
      by_cases e : i = j
      · subst e
        rw [List.getElem?_set_self (by rw [ctTo_length]; exact hi), if_pos (Nat.le_refl _), hb]
      · rw [List.getElem?_set_ne (fun e' => e e'.symm), ctTo_get hi]
        by_cases c : j ≤ i
        · rw [if_pos c, if_pos (by omega)]
        · rw [if_neg c, if_neg (by omega)]
    · rw [List.getElem?_eq_none (by simp [ctTo]; omega), List.getElem?_eq_none (by simp [ctTo]; omega)]
  have same : ix t m ce j = j → ctTo t m ls ce (j + 1) = ctTo t m ls ce j := by
    intro hb
    rw [← key (ls.getD j 0) (by rw [hb])]
    symm
    apply List.ext_getElem?
    intro i
    by_cases e : i = j
    · subst e
      rw [List.getElem?_set_self (by rw [ctTo_length]; exact hj), ctTo_get hj, if_neg (by omega)]
    · rw [List.getElem?_set_ne (fun e' => e e'.symm)]
  refine ⟨fun p e hp => ?_, fun hh => ?_⟩
  · rcases h.par hj with e' | ⟨q, e', h1, _, h2, _⟩
    · omega
    · obtain rfl : p = q := by omega
      apply key
      rw [ctTo_at h2, if_pos (by omega), ix_par h hj e, if_pos hp]
  · rcases hh with hh | ⟨p, e, hp⟩
    · exact same (ix_root h hj hh)
    · exact same (by rw [ix_par h hj e, if_neg hp])

/-- What Cut returns. -/
def cutO (t : Tr) (k : Int) : Int × List Nat := match lsL t with
  | none => (2, [])
  | some ls => if k < ((rootsL t t.lv.toNat t.par.length ls).length : Int) ∨ t.lv < k then (3, []) else (0, cutL t t.lv.toNat t.par.length ls (t.lv.toNat + (t.lv - k).toNat))

structure CtPost (w : World) (t : Tr) (k : Int) (e : Ending) (w' : World) : Prop where
  bad : (cutO t k).1 ≠ 0 → e = .returned (.tuple #[.slice none 0 0, .int .i64 (cutO t k).1])
  ok : (cutO t k).1 = 0 → ∃ v, e = .returned (.tuple #[v, .int .i64 0]) ∧ w'.ownsRow 0 3 1 v (cutO t k).2.length (natV (cutO t k).2) ∧ ∀ x, v.ownBlock = some x → w.heap.size ≤ x
  bel : Below w.heap.size w w'
theorem CtPost.no {w w' : World} {t : Tr} {k c : Int} (h : cutO t k = (c, [])) (hc : c ≠ 0) (hb : Below w.heap.size w w') : CtPost w t k (.returned (.tuple #[.slice none 0 0, .int .i64 c])) w' :=
  ⟨fun _ => by rw [h], fun e => absurd (by rw [h] at e; exact e) hc, hb⟩

set_option maxHeartbeats 4000000 in
set_option maxRecDepth 100000 in
theorem cut_ok (w : World) (A : TA) (t : Tr) (ht : TreeAt w A t) (k : Int) (hk64 : -9223372036854775808 ≤ k ∧ k ≤ 9223372036854775807) : Calls Tryz.prog 32 #[A.agg t, .int .i64 k] w (CtPost w t k) := by
  have HT := Lib.hid ht
  have HB := Lib.hid (TBox.new w A t)
  have HW := Lib.hid (bel_alloc w (.cells #[.int .i64 t.lv, .slice A.l.o t.left.length A.l.c, .slice A.r.o t.right.length A.r.c, .slice A.p.o t.par.length A.p.c, .slice A.h.o t.hgt.length A.h.c, .slice A.s.o t.siz.length A.s.c] 27))
  have HT2 := Lib.hid (ht.below HW.out)
  have c0 := HB.out.c0
  have c1 := HB.out.c1
  have c2 := HB.out.c2
  have c3 := HB.out.c3
  have c4 := HB.out.c4
  have c5 := HB.out.c5
  clear ht
  show Calls _ _ #[.agg #[.int .i64 t.lv, .slice A.l.o t.left.length A.l.c, .slice A.r.o t.right.length A.r.c, .slice A.p.o t.par.length A.p.c, .slice A.h.o t.hgt.length A.h.c, .slice A.s.o t.siz.length A.s.c], _] _ _
  go_enter Tryz.func32, Tryz.ntmps32
  go_wp2_with fail
  with_reducible refine (check_ok _ A t HT2.out).mono ?_
  rintro e w2 ⟨rfl, hb⟩
  have HW2 := Lib.hid (bel_then HW.out hb)
  have HB2 := Lib.hid (Blk.below HB.out hb (Blk.lt HB.out))
  have HT3 := Lib.hid (HT2.out.below hb)
  clear hb c0 c1 c2 c3 c4 c5
  cases hl : lsL t with
  | none =>
    have HC : Hid (cutO t k = (2, [])) := by show _ = _; unfold cutO; rw [hl]
    rw [chk_none hl]
    clear hl
    go_wp2_with fail
    go_ret2
    exact CtPost.no HC.out (by decide) HW2.out
  | some ls =>
    have HL0 := Lib.hid hl
    obtain ⟨n, hn, hv⟩ := tv_of hl
    obtain ⟨m, hm⟩ : ∃ m, t.par.length = m := ⟨_, rfl⟩
    have HC : Hid (cutO t k = if k < ((rootsL t n m ls).length : Int) ∨ (n : Int) < k then (3, []) else (0, cutL t n m ls (n + ((n : Int) - k).toNat))) := by show _ = _; unfold cutO; rw [hl]; simp only; rw [hn, hm, Int.toNat_natCast]
    have HRO : Hid (rootsO t = some (rootsL t n m ls)) := by show _ = _; rw [rootsO_some hl, hn, hm, Int.toNat_natCast]
    rw [hm] at hv
    have HV := Lib.hid hv
    have HM := Lib.hid hm
    have HN := Lib.hid hn
    have hn4 := hv.hn
    have hm2 := hv.two
    have hnm := hv.nm
    rw [chk_some hl]
    have c0 := TBox.c0 HB2.out
    have c1 := TBox.c1 HB2.out
    have c2 := TBox.c2 HB2.out
    have c3 := TBox.c3 HB2.out
    have c4 := TBox.c4 HB2.out
    have c5 := TBox.c5 HB2.out
    clear hl hn hm hv
    go_wp2_with fail
    with_reducible refine (roots_ok _ A t HT3.out).mono ?_
    rintro e w3 hp
    have hr := hp.row
    rw [HRO.out] at hr
    obtain ⟨ra, rcap, rb, rfl, _⟩ := hr
    have hb := hp.bel
    obtain ⟨R, HRL⟩ : ∃ R, Hid ((rootsL t n m ls).length = R) := ⟨_, rfl⟩
    rw [HRL.out] at HC
    simp only [Option.getD_some, HRL.out]
    have HW3 := Lib.hid (bel_then HW2.out hb)
    have HB3 := Lib.hid (Blk.below HB2.out hb (Blk.lt HB2.out))
    have HT4 := Lib.hid (HT3.out.below hb)
    clear hp hb c0 c1 c2 c3 c4 c5
    have c0 := TBox.c0 HB3.out
    rw [HN.out] at c0
    by_cases k1 : k < (R : Int)
    · have t1 : decide (k < (R : Int)) = true := decide_eq_true k1
      have HC2 : Hid (cutO t k = (3, [])) := by show _ = _; rw [HC.out, if_pos (.inl k1)]
      clear k1
      go_wp2_with fail
      go_ret2
      exact CtPost.no HC2.out (by decide) HW3.out
    have t1 : decide (k < (R : Int)) = false := decide_eq_false k1
    by_cases k2 : (n : Int) < k
    · have t2 : decide ((n : Int) < k) = true := decide_eq_true k2
      have HC2 : Hid (cutO t k = (3, [])) := by show _ = _; rw [HC.out, if_pos (.inr k2)]
      clear k1 k2
      go_wp2_with fail
      go_ret2
      exact CtPost.no HC2.out (by decide) HW3.out
    have t2 : decide ((n : Int) < k) = false := decide_eq_false k2
    obtain ⟨kk, rfl⟩ := Int.eq_ofNat_of_zero_le (show 0 ≤ k by omega)
    have t1n : decide (kk < R) = false := decide_eq_false (by omega)
    have t2n : decide (n < kk) = false := decide_eq_false (by omega)
    obtain ⟨ce, HCE⟩ : ∃ ce, Hid (n + ((n : Int) - (kk : Int)).toNat = ce) := ⟨_, rfl⟩
    have HC2 : Hid (cutO t kk = (0, cutL t n m ls ce)) := by show _ = _; rw [HC.out, if_neg (by omega), HCE.out]
    have ece : (n : Int) + ((n : Int) - (kk : Int)) = (ce : Int) := by have := HCE.out; omega
    have w0 : IntKind.i64.wrap ((n : Int) - (kk : Int)) = (n : Int) - (kk : Int) := IntWalk.i64_in _ (by omega)
    have w1 : IntKind.i64.wrap (ce : Int) = (ce : Int) := IntWalk.i64_in _ (by omega)
    have c1 := TBox.c1 HB3.out
    have c2 := TBox.c2 HB3.out
    have c3 := TBox.c3 HB3.out
    have c4 := TBox.c4 HB3.out
    have c5 := TBox.c5 HB3.out
    have HKK : Hid (kk ≤ n) := by show _ ≤ _; omega
    clear k1 k2 hk64
    go_wp2_with fail
    clear w0 w1 ece t1 t2 t1n t2n
    have hcon := least_ok w3 A t HT4.out
    rw [TA.agg, HN.out] at hcon
    with_reducible refine hcon.mono ?_
    clear hcon
    rintro e w4 ⟨_, hgood, hb⟩
    obtain ⟨v, rfl, ho, hvn⟩ := hgood ls HL0.out
    have HLL : Hid (ls.length = m) := HV.out.lsl
    rw [HLL.out] at ho
    obtain ⟨lo, lcap, rfl⟩ := owns_slice ho
    have HOW := Lib.hid ho
    have HW4 := Lib.hid (bel_then HW3.out hb)
    have HB4 := Lib.hid (Blk.below HB3.out hb (Blk.lt HB3.out))
    have HT5 := Lib.hid (HT4.out.below hb)
    clear hb hgood ho hvn c0 c1 c2 c3 c4 c5
    have hsrc := Src.of_take HOW.out (Nat.le_refl m)
    rw [List.take_of_length_le (by rw [HLL.out]; exact Nat.le_refl _)] at hsrc
    go_wp2_with fail
    with_reducible refine (cloneI_ok w4 _ m lcap (natV ls) hsrc (by omega)).mono ?_
    rintro e w5 ⟨v, rfl, hrow, hb, hnew⟩
    obtain ⟨vo, vc, rfl⟩ := owns_slice hrow
    have HROW := Lib.hid hrow
    have HNEW := Lib.hid hnew
    have HW5 := Lib.hid (bel_then HW4.out hb)
    have HB5 := Lib.hid (Blk.below HB4.out hb (Blk.lt HB4.out))
    have HT6 := Lib.hid (HT5.out.below hb)
    have HB45 := Lib.hid hb
    clear hrow hnew hb hsrc
    have c3 := TBox.c3 HB5.out
    rw [HM.out] at c3
    go_wp2_with fail
    clear c3
    have HST : Hid (w5.ownsRow 0 3 1 (.slice vo m vc) m (natV (ctTo t m ls ce m))) := by
      show World.ownsRow _ _ _ _ _ _ _
      rw [ctTo_end HLL.out]; exact HROW.out
    have w0 : IntKind.i64.wrap ((m : Int) - 1) = (m : Int) - 1 := IntWalk.i64_in _ (by omega)
    go_loopw [9] (fun s wr => ∃ j : Nat, j ≤ m ∧ s = .int .i64 ((j : Int) - 1) ∧ wr.ownsRow 0 3 1 (.slice vo m vc) m (natV (ctTo t m ls ce j)) ∧ Below w4.heap.size w4 wr) (fun s _ => (intOf s + 1).toNat)
    case atStart => exact ⟨m, Nat.le_refl _, by go_num, HST.out, HB45.out⟩
    case round =>
      obtain ⟨j, hj, rfl, ho, hb⟩ := hrel
      have HO := Lib.hid ho
      have HBL := Lib.hid hb
      have HTR := Lib.hid (HT5.out.below hb)
      have HBR := Lib.hid (Blk.below HB4.out hb (Blk.lt HB4.out))
      have HWR := Lib.hid (bel_then HW4.out hb)
      clear ho hb HST w0
      rcases j with _ | j
      · have c0 := TBox.c0 HBR.out
        rw [HN.out] at c0
        rw [show ((0 : Nat) : Int) - 1 = -1 from rfl]
        have hlv : n ≤ vc := by
          rcases HO.out.2 with ⟨e, e2⟩ | ⟨g, cap, cur, e, _, _, h2, _⟩
          · injection e with _ _ e; omega
          · injection e with _ _ e; omega
        have hvm : vc ≤ 9223372036854775807 := by
          rcases HO.out.2 with ⟨e, e2⟩ | ⟨g, cap, cur, e, _, _, _, h2, _⟩
          · injection e with _ _ e; omega
          · injection e with _ _ e; unfold maxLen at h2; omega
        have hsrc := Src.of_take HO.out hnm
        rw [ctTo_zero hnm] at hsrc
        go_wp2_with fail
        with_reducible refine (cloneI_ok wr _ n vc _ hsrc (by omega)).mono ?_
        rintro e w8 ⟨v8, rfl, hrow, hb8, hnew⟩
        have HROW8 := Lib.hid hrow
        have HNEW8 := Lib.hid hnew
        have HW8 := Lib.hid (bel_then HWR.out hb8)
        clear hrow hb8 hnew hsrc c0
        go_wp2_with fail
        go_ret2
        have hlen : (cutL t n m ls ce).length = n := by simp [cutL]
        refine ⟨fun e => absurd (by rw [HC2.out]) e, fun _ => ⟨v8, rfl, by rw [HC2.out, hlen]; exact HROW8.out, fun x hx => ?_⟩, HW8.out⟩
        have h1 := HNEW8.out x hx
        have h2 := HWR.out.size
        omega
      · rw [show ((j + 1 : Nat) : Int) - 1 = (j : Int) by omega]
        have hjm : j < m := by omega
        obtain ⟨hst1, hst2⟩ := ctTo_step HV.out (ce := ce) hjm
        have HSB := Lib.hid hst2
        obtain ⟨e3, d3⟩ := HTR.out.p.get (i := j) (by rw [HM.out]; exact hjm)
        have c3 := TBox.c3 HBR.out
        rw [e3, HM.out] at c3
        have t1 : (0 : Int) ≤ (j : Int) := by omega
        have t2 : (j : Int) < (m : Int) := by omega
        have w0 : IntKind.i64.wrap ((j : Int) - 1) = (j : Int) - 1 := IntWalk.i64_in _ (by omega)
        clear e3 hst2
        rcases HV.out.par hjm with e | ⟨p, e, h1, h2, h3, _⟩
        · have HE : Hid (ctTo t m ls ce (j + 1) = ctTo t m ls ce j) := HSB.out (.inl (by omega))
          rw [e] at d3
          clear e hst1
          go_wp2_with fail
          go_roundw
          case rel => exact ⟨j, by omega, by go_num, by rw [← HE.out]; exact HO.out, HBL.out⟩
          case measure => simp [intOf] <;> omega
        · rw [e] at d3
          have t3 : (0 : Int) ≤ (p : Int) := by omega
          have t4 : (p : Int) < (m : Int) := by omega
          by_cases hc : p < ce
          · have HE := Lib.hid (hst1 p e hc)
            have t5 : decide ((p : Int) < (ce : Int)) = true := decide_eq_true (by omega)
            have t6 : decide (p < ce) = true := decide_eq_true hc
            obtain ⟨g, cap, hvv, hcap, _, _, hcell, hfr⟩ := owns_form HO.out (by omega)
            injection hvv with e1 _ e2
            subst e1 e2
            have cj := hcell j (by omega)
            have cp := hcell p (by omega)
            have fj := hfr j
            rw [natV_get (by rw [ctTo_length]; exact hjm)] at cj
            rw [natV_get (by rw [ctTo_length]; exact h3)] at cp
            have HSET := Lib.hid (fun (W : World) (h : W.ownsRow 0 3 1 (.slice (some ⟨g, 0, none⟩) m vc) m (natV (ctTo t m ls ce (j + 1)))) => owns_set h j (by omega) (.int .i64 (((ctTo t m ls ce (j + 1)).getD p 0 : Nat) : Int)))
            have HGN : Hid (w4.heap.size ≤ g) := HNEW.out g rfl
            generalize (ctTo t m ls ce (j + 1)).getD p 0 = x at *
            have HO2 : Hid ((wr.setCell ⟨g, j, none⟩ (.int .i64 (x : Int))).ownsRow 0 3 1 (.slice (some ⟨g, 0, none⟩) m vc) m (natV (ctTo t m ls ce j))) := by
              have := HSET.out wr HO.out
              rw [natV_set, HE.out] at this
              exact this
            have HBL2 : Hid (Below w4.heap.size w4 (wr.setCell ⟨g, j, none⟩ (.int .i64 (x : Int)))) :=
              bel_mod HBL.out (Mod.setCell (Mod.refl (fun k => k = g) wr) ⟨g, j, none⟩ (fun _ => rfl) _) (fun x e => by rw [e]; exact HGN.out)
            clear hc hst1 e h1 h2 h3 hcell hfr hcap HSET
            go_wp2_with fail
            go_roundw
            case rel => exact ⟨j, by omega, by go_num, HO2.out, HBL2.out⟩
            case measure => simp [intOf] <;> omega
          · have HE : Hid (ctTo t m ls ce (j + 1) = ctTo t m ls ce j) := HSB.out (.inr ⟨p, e, hc⟩)
            have t5 : decide ((p : Int) < (ce : Int)) = false := decide_eq_false (by omega)
            have t6 : decide (p < ce) = false := decide_eq_false hc
            clear hc hst1 e h1 h2 h3
            go_wp2_with fail
            go_roundw
            case rel => exact ⟨j, by omega, by go_num, by rw [← HE.out]; exact HO.out, HBL.out⟩
            case measure => simp [intOf] <;> omega

end Go.Proofs.YthacjealoomioaaGreatDoor
