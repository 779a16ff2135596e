/- The walk of LinkageTrees. -/
import Derived.Test.YthacjealoomioaaZLkTn
import Derived.Test.YthacjealoomioaaZMgT
import Derived.Test.YthacjealoomioaaZLkH
import Derived.Test.YthacjealoomioaaZRcU
import Derived.BigQuiet
import Derived.Deep.CutBlock
namespace Go.Proofs.Ythacjealoomioaa.Lk
set_option linter.unusedVariables false
set_option linter.unusedSimpArgs false
open Go.RowKit

theorem edCells_oneT (l : List Ed) (e : Ed) : edCells (l ++ [e]) = edCells l ++ [.int .i64 e.U, .int .i64 e.V, .int .i64 e.W] := by
  unfold edCells; rw [List.flatMap_append]; rfl
theorem runL_lenT (n : Nat) (m : Int) (d : List Int) : (runL n m d).length = n - 1 := runS_ms_length n m d (n - 1)
theorem row_mergesT {w : World} {v : Value} {n : Nat} {m : Int} {d : List Int} {T : TypeId} (h : w.ownsRow 0 T 5 v (n - 1) ((runL n m d).flatMap Mg.cells)) : ∃ ao cap b, v = .slice ao (n - 1) cap ∧ MRow w ao (n - 1) b 0 (runL n m d) := by
  rw [← runL_lenT n m d] at h
  obtain ⟨ao, cap, b, h1, h2, _⟩ := MRow.of_owns h
  rw [runL_lenT] at h1 h2
  exact ⟨ao, cap, b, h1, h2⟩
theorem app_edgeT {B : Nat} {wr w6 : World} {o : Obj} {v v6 : Value} {L : List Ed} {x : Ed} (hv : ∀ k, v.ownBlock = some k → B ≤ k) (hB : B ≤ wr.heap.size) (ho : w6.ownsRow 0 27 3 v6 (L.length + 1) (edCells L ++ [.int .i64 x.U, .int .i64 x.V, .int .i64 x.W])) (hg : (wr.alloc o).grownBy w6 v.ownBlock)
    (hn : ∀ k, v6.ownBlock = some k → v.ownBlock = some k ∨ (wr.alloc o).heap.size ≤ k) : w6.ownsRow 0 27 3 v6 (L ++ [x]).length (edCells (L ++ [x])) ∧ (∀ k, v6.ownBlock = some k → B ≤ k) ∧ Below B wr w6 := by
  refine ⟨by rw [edCells_oneT, List.length_append]; exact ho, fun k hk => ?_, ((Below.refl _ _).alloc hB o).trans (grown_below hg hv (by simp; omega))⟩
  rcases hn k hk with e | e
  · exact hv k e
  · simp at e; omega
theorem owns_limsT {w : World} {B : Nat} {e : TypeId} {size n cap : Nat} {ao : Option Addr} {xs : List Value} (h : w.ownsRow B e size (.slice ao n cap) n xs) : (n ≤ cap ∧ cap ≤ 9223372036854775807) ∧ (ao = none → cap = 0) := by
  rcases h.2 with ⟨e1, e2⟩ | ⟨g, c, cur, e1, _, _, h1, h2, _⟩
  · injection e1 with e3 _ e4
    subst e4
    exact ⟨⟨by omega, by omega⟩, fun _ => rfl⟩
  · injection e1 with e3 _ e4
    subst e4
    unfold maxLen at h2
    exact ⟨⟨h1, h2⟩, fun e => by rw [e3] at e; cases e⟩
theorem max_runT (x y : Int) : ∀ w, (Builtin.max_ #[2, 2] 2 #[Value.int IntKind.i64 x, .int .i64 y]).run Try.prog w = .ok (.int .i64 (max x y)) w := by
  intro w
  show (Builtin.max2 (.int .i64 x) (.int .i64 y)).run Try.prog w = _
  unfold Builtin.max2
  by_cases h : x ≤ y
  · rw [Int.max_eq_right h]
    by_cases h2 : x = y
    · subst h2
      simp
      try rfl
    · have h3 : x < y := by omega
      simp [h, h3]
      try rfl
  · rw [Int.max_eq_left (by omega)]
    have h3 : ¬ x < y := by omega
    simp [h, h3]
    try rfl
theorem tmodT (a b : Nat) : ((a : Int).tmod (b : Int)) = ((a % b : Nat) : Int) := by
  rw [Int.natCast_emod, Int.tmod_eq_emod_of_nonneg (by omega)]
/-- An edge of this weight is among the first j. -/
def fndT (l : List Ed) (N : Int) : Nat → Bool
  | 0 => false
  | j + 1 => fndT l N j || decide (wI l j = N)
theorem fndT_of {l : List Ed} {N : Int} {q : Nat} (h : wI l q = N) : ∀ j, q < j → fndT l N j = true
  | j + 1, hq => by
    rw [fndT]
    by_cases e : q = j
    · subst e; rw [decide_eq_true h, Bool.or_true]
    · rw [fndT_of h j (by omega), Bool.true_or]
theorem two_newT (wr : World) (T : TypeId) (cs ds : List Value) : Blk ((wr.alloc (.cells cs.toArray T)).alloc (.cells ds.toArray T)) wr.heap.size T cs ∧ Blk ((wr.alloc (.cells cs.toArray T)).alloc (.cells ds.toArray T)) (wr.heap.size + 1) T ds ∧ Below wr.heap.size wr ((wr.alloc (.cells cs.toArray T)).alloc (.cells ds.toArray T)) := by
  refine ⟨(Blk.new wr T cs).alloc _, ?_, ((Below.refl _ _).alloc (Nat.le_refl _) _).alloc (by simp) _⟩
  have := Blk.new (wr.alloc (.cells cs.toArray T)) T ds
  simpa using this
theorem forL_zero {d : List Int} : (forL 0 (cpTo 0 d 0)).length = 0 := by
  cases h : forL 0 (cpTo 0 d 0) with
  | nil => rfl
  | cons x r =>
    have := forL_mem (n := 0) (l := cpTo 0 d 0) (i := x) (by rw [h]; exact List.mem_cons_self ..)
    exact absurd this (by simp [cpTo])

set_option maxHeartbeats 32000000 in
set_option maxRecDepth 100000 in
theorem trees_law (w : World) (n0 : Nat) (hn0 : n0 ≤ 255) (ao : Option Addr) (len cap b off : Nat) (z : List Int) (hz : InRow .u64 w ao len b off z) (hlen : len ≤ 9223372036854775807) (hu : ∀ x ∈ z, 0 ≤ x ∧ x < 18446744073709551616) :
    Calls Try.prog 3 #[.int .u8 (n0 : Int), .slice ao len cap] w (RetB (.bool true) w) := by
  have HZ := Lib.hid hz
  have HU := Lib.hid hu
  have r1 : (n0 : Int).tmod 61 = ((n0 % 61 : Nat) : Int) := tmodT n0 61
  have r0 : IntKind.i64.wrap (n0 : Int) = (n0 : Int) := IntWalk.i64_in _ (by omega)
  have hk : n0 % 61 ≤ 60 := by have := Nat.mod_lt n0 (show 0 < 61 by omega); omega
  generalize n0 % 61 = k at *
  clear hz hu
  go_enter Try.func3, Try.ntmps3
  go_wp2_with fail
  with_reducible refine (points_ok w k (by omega) ao len cap b off z HZ.out hlen HU.out).mono ?_
  rintro e w1 ⟨rfl, hblk, hb1⟩
  have HB1 := Lib.hid hb1
  have HCK := Lib.hid (pts_check (n := k) (by omega) z)
  have HLen := Lib.hid (pts_len k z)
  obtain ⟨nn, HNN⟩ : ∃ q, Hid (k * k = q) := ⟨_, rfl⟩
  have hnn : k * k ≤ 3600 := Nat.mul_le_mul hk hk
  have hin : InRow .i64 w1 (some ⟨w.heap.size, 0, none⟩) (k * k) w.heap.size 0 (ptsL k z) := by
    have h2 := InRow.of_blk (k := .i64) hblk
    rw [pts_len] at h2
    exact h2
  rw [HNN.out] at hin hnn HLen ⊢
  generalize ptsL k z = d at *
  have HIN := Lib.hid hin
  have hdb : w.heap.size < w1.heap.size := hblk.lt
  obtain ⟨db, HDB⟩ : ∃ db, Hid (w.heap.size = db) := ⟨_, rfl⟩
  simp only [HDB.out] at HIN hdb ⊢
  clear hin hblk hb1 HZ HU r1 r0
  go_wp2_with fail
  go_loopw [7, 8, 9] (fun v ms s wr => ∃ i : Nat, i ≤ k ∧ s = .int .i64 (i : Int) ∧ ms = .int .i64 (cpMT k d i) ∧ wr.ownsRow 0 27 3 v (cpTo k d i).length (edCells (cpTo k d i)) ∧ (∀ y, v.ownBlock = some y → w1.heap.size ≤ y) ∧ Below w1.heap.size w1 wr) (fun _ _ s _ => k - (intOf s).toNat)
  case atStart => exact ⟨0, Nat.zero_le _, rfl, rfl, World.ownsRow_nil _ _ _ _, fun y hy => (by cases hy), Below.refl _ _⟩
  case round =>
    obtain ⟨i, hi, rfl, rfl, hx, hxn, hb⟩ := hrel
    have HX := Lib.hid hx
    have HXN := Lib.hid hxn
    have HBR := Lib.hid hb
    clear hx hxn hb
    by_cases hil : i < k
    · have HSUC : Hid (cpTo k d (i + 1) = cpRow k d i (cpTo k d i) k) := rfl
      have HMUC : Hid (cpMT k d (i + 1) = cpM k d i (cpMT k d i) k) := rfl
      have hlim := fun a b => (DOk.of_check HCK.out).lim a b
      have HL0 : Hid ((cpTo k d i).length ≤ 3600) := by
        have h1 := cpTo_len k d i
        have h2 : i * k ≤ 60 * 60 := Nat.mul_le_mul (by omega) hk
        show _ ≤ _
        omega
      obtain ⟨L0, HL0e⟩ : ∃ L0, Hid (cpTo k d i = L0) := ⟨_, rfl⟩
      obtain ⟨m0, HM0e⟩ : ∃ m0, Hid (cpMT k d i = m0) := ⟨_, rfl⟩
      rw [HL0e.out] at HX HSUC HL0
      rw [HM0e.out] at HMUC ⊢
      have s1 : IntKind.i64.wrap ((i : Int) + 1) = ((i + 1 : Nat) : Int) := by rw [IntWalk.i64_in _ (by omega)]; omega
      go_wp2_with fail
      clear s1
      go_loopw [7, 8, 10] (fun v ms s wr => ∃ j : Nat, i < j ∧ j ≤ k ∧ s = .int .i64 (j : Int) ∧ ms = .int .i64 (cpM k d i m0 j) ∧ wr.ownsRow 0 27 3 v (cpRow k d i L0 j).length (edCells (cpRow k d i L0 j)) ∧ (∀ y, v.ownBlock = some y → w1.heap.size ≤ y) ∧ Below w1.heap.size w1 wr) (fun _ _ s _ => k - (intOf s).toNat)
      case atStart => exact ⟨i + 1, by omega, by omega, by first | rfl | go_num, by rw [cpM_start _ _ _ _ _ (Nat.le_refl _)], by rw [cpRow_start _ _ _ _ _ (Nat.le_refl _)]; exact HX.out, HXN.out, HBR.out⟩
      case round =>
        obtain ⟨j, hij, hj, rfl, rfl, hx, hxn, hb⟩ := hrel
        clear HX HXN HBR
        have HX := Lib.hid hx
        have HXN := Lib.hid hxn
        have HBZ := Lib.hid hb
        clear hx hxn hb
        by_cases hjk : j < k
        · have HRJ : Hid (cpRow k d i L0 (j + 1) = cpRow k d i L0 j ++ [⟨(i : Int), (j : Int), at2 k d i j⟩]) := by show _ = _; rw [cpRow, if_pos hij]
          have HMJ : Hid (cpM k d i m0 (j + 1) = max (cpM k d i m0 j) (at2 k d i j)) := by show _ = _; rw [cpM, if_pos hij]
          have hlj : (cpRow k d i L0 j).length ≤ 100000 := by have := cpRow_len k d i L0 j; have := HL0.out; omega
          have x1 : i * k + j < nn := by rw [← HNN.out]; exact idx_lt hil hjk
          have c1 := (HIN.out.below HBZ.out).cell (i * k + j) x1
          have ea : d.getD (i * k + j) 0 = at2 k d i j := rfl
          rw [ea] at c1
          clear ea
          obtain ⟨L, HLe⟩ : ∃ L, Hid (cpRow k d i L0 j = L) := ⟨_, rfl⟩
          rw [HLe.out] at HX HRJ hlj
          obtain ⟨LL, HLL⟩ : ∃ LL, Hid (L.length = LL) := ⟨_, rfl⟩
          rw [HLL.out] at HX hlj
          obtain ⟨vo, vc, rfl⟩ := owns_slice HX.out
          generalize cpM k d i m0 j = mj at *
          generalize at2 k d i j = x at *
          have m1 : (i : Int) * (k : Int) = ((i * k : Nat) : Int) := by rw [Int.natCast_mul]
          generalize i * k = im at *
          obtain ⟨p, hp⟩ : ∃ p, im + j = p := ⟨_, rfl⟩
          have m3 : (im : Int) + (j : Int) = (p : Int) := by omega
          rw [hp] at x1 c1
          have v1 : IntKind.i64.wrap (im : Int) = (im : Int) := IntWalk.i64_in _ (by omega)
          have v3 : IntKind.i64.wrap (p : Int) = (p : Int) := IntWalk.i64_in _ (by omega)
          have y1 : (p : Int) < (nn : Int) := by omega
          have y2 : (0 : Int) ≤ (p : Int) := by omega
          have hmax := max_runT mj x
          have HOW := Lib.hid (HX.out.alloc (.cells #[.int .i64 i, .int .i64 j, .int .i64 x] 27))
          have HNW := Lib.hid (news_new wr 27 [.int .i64 i, .int .i64 j, .int .i64 x])
          have hdz : db < wr.heap.size := World.block_lt_of_cell? wr _ c1
          rw [Nat.zero_add] at c1
          clear hp
          go_wp2_with (at_builtin; apply keepIt)
          apply Lib.hid
          refine wpList_appendB 27 (.agg #[.int .i64 0, .int .i64 0, .int .i64 0]) 3 24 Try.underlying25 Try.infoEdge rfl (by decide) _ LL _ rfl HOW.out ⟨wr.heap.size, 0, none⟩ 1 1 [.int .i64 i, .int .i64 j, .int .i64 x] rfl rfl HNW.out (by simp [Value.oneCell']) (by unfold maxLen; omega) (by omega) ?_
          intro v6 w6 ho6 hg6 hn6
          rw [← HLL.out] at ho6
          obtain ⟨hv6, hvn6, hb6⟩ := app_edgeT (x := ⟨(i : Int), (j : Int), x⟩) HXN.out HBZ.out.size ho6 hg6 hn6
          rw [← HRJ.out] at hv6
          have HV6 := Lib.hid hv6
          have HN6 := Lib.hid hvn6
          have HB6 := Lib.hid (HBZ.out.trans hb6)
          have c1 := (hb6.cell (p := ⟨db, p, none⟩) hdb).trans c1
          clear ho6 hg6 hn6 hv6 hvn6 hb6 HOW HNW
          go_wp2_with fail
          go_roundw
          case rel => exact ⟨j + 1, by omega, by omega, by go_num, by rw [HMJ.out], HV6.out, HN6.out, HB6.out⟩
          case measure => simp [intOf]; omega
        · obtain rfl : j = k := by omega
          rw [← HSUC.out] at HX
          go_wp2_with fail
          go_roundw
          case rel => exact ⟨i + 1, by omega, by go_num, by rw [HMUC.out], HX.out, HXN.out, HBZ.out⟩
          case measure => simp [intOf]; omega
    · obtain rfl : i = k := by omega
      have HDO := Lib.hid (DOk.of_check HCK.out)
      have HGK := Lib.hid (cp_gok hk d)
      have HSG : Hid (∀ q, q + 1 < i → hg i d q = wI (cpTo i d i) (fe i (cpTo i d i) q)) := fun q hq => (cp_single (by omega) hk HDO.out).2 q hq
      have HFL : Hid ((forL i (cpTo i d i)).length = i - 1) := by
        show _ = _
        by_cases h0 : i = 0
        · subst h0; exact forL_zero
        · have := (cp_single (by omega) hk HDO.out).1
          unfold FN at this
          omega
      have HCP : Hid (∀ q, q + 1 < i → ((runL i 2 d).getD q mg0).D = 1 ∧ ((runL i 2 d).getD q mg0).N ≤ cpMT i d i ∧ ∃ r, r < (cpTo i d i).length ∧ wI (cpTo i d i) r = ((runL i 2 d).getD q mg0).N) := fun q hq => cp_complete HDO.out hq
      have hl4 : (cpTo i d i).length ≤ 3600 := by
        have h1 := cpTo_len i d i
        have h2 : i * i ≤ 60 * 60 := Nat.mul_le_mul hk hk
        omega
      obtain ⟨l, HLe⟩ : ∃ l, Hid (cpTo i d i = l) := ⟨_, rfl⟩
      obtain ⟨MM, HMM⟩ : ∃ l, Hid (cpMT i d i = l) := ⟨_, rfl⟩
      rw [HLe.out] at HX HGK HSG HFL HCP hl4
      rw [HMM.out] at HCP ⊢
      obtain ⟨ao2, cap2, bl, rfl, he, hkk⟩ := ERow.of_owns HX.out
      obtain ⟨m, HM⟩ : ∃ m, Hid (l.length = m) := ⟨_, rfl⟩
      have hnil : ao2 = none → cap2 = 0 := (owns_limsT HX.out).2
      rw [HM.out] at he hl4 HCP ⊢
      have HE := Lib.hid he
      have HNIL := Lib.hid hnil
      have HINR := Lib.hid (HIN.out.below HBR.out)
      have HB0 := Lib.hid (bel_then HB1.out (by rw [HDB.out] at *; exact HBR.out))
      clear he hnil hkk HX HXN hil HIN
      go_wp2_with fail
      with_reducible refine (forest_ok wr i ao2 m cap2 bl 0 l HE.out (by omega) HNIL.out (by omega)).mono ?_
      rintro e w3 ⟨_, hok, hb⟩
      obtain ⟨v3, rfl, ho3, _⟩ := hok HGK.out.err
      rw [Int.toNat_natCast] at ho3
      rw [HFL.out] at ho3
      obtain ⟨n1, HN1⟩ : ∃ n1, Hid (i - 1 = n1) := ⟨_, rfl⟩
      rw [HN1.out] at ho3
      obtain ⟨ao3, cap3, rfl⟩ := owns_slice ho3
      have HO3 := Lib.hid ho3
      have HE3 := Lib.hid (HE.out.below hb)
      have HIN3 := Lib.hid (HINR.out.below hb)
      have HB3 := Lib.hid (bel_then HB0.out hb)
      clear hok hb ho3 HE HINR
      go_wp2_with fail
      with_reducible refine (run_ok w3 i 1 (.inl rfl) (some ⟨db, 0, none⟩) nn nn db 0 d HIN3.out (fun h => by cases h) HNN.out.symm (by omega) HCK.out).mono ?_
      rintro e w4 ⟨v4, rfl, ho4, hb4, _⟩
      obtain ⟨ao4, cap4, b4, rfl, hr4⟩ := row_mergesT ho4
      rw [HN1.out] at hr4 ⊢
      have HR4 := Lib.hid hr4
      have HE4 := Lib.hid (HE3.out.below hb4)
      have HIN4 := Lib.hid (HIN3.out.below hb4)
      have HO4 := Lib.hid (owns_mod HO3.out (Mod.of_below (F := fun _ => False) hb4) (fun _ _ h => h))
      have HB4 := Lib.hid (bel_then HB3.out hb4)
      clear ho4 hb4 hr4 HE3 HIN3 HO3
      go_wp2_with fail
      with_reducible refine (run_ok w4 i 2 (.inr (.inl rfl)) (some ⟨db, 0, none⟩) nn nn db 0 d HIN4.out (fun h => by cases h) HNN.out.symm (by omega) HCK.out).mono ?_
      rintro e w5 ⟨v5, rfl, ho5, hb5, _⟩
      obtain ⟨ao5, cap5, b5, rfl, hr5⟩ := row_mergesT ho5
      rw [HN1.out] at hr5 ⊢
      have HR5 := Lib.hid hr5
      have HE5 := Lib.hid (HE4.out.below hb5)
      have HS5 := Lib.hid (HR4.out.below hb5)
      have HO5 := Lib.hid (owns_mod HO4.out (Mod.of_below (F := fun _ => False) hb5) (fun _ _ h => h))
      have HB5 := Lib.hid (bel_then HB4.out hb5)
      clear ho5 hb5 hr5 HE4 HIN4 HO4 HR4 HB3 HB4 HB0
      have hn1 : n1 ≤ 59 := by have := HN1.out; omega
      have HFE : Hid (∀ q, q < n1 → (forL i l).getD q 0 = fe i l q) := fun q _ => rfl
      have HFM : Hid (∀ q, q < n1 → fe i l q < m) := fun q hq => by
        rw [← HM.out]
        exact forL_mem (n := i) (by
          unfold fe
          rw [List.getD_eq_getElem?_getD, List.getElem?_eq_getElem (by have := HFL.out; have := HN1.out; omega)]
          exact List.getElem_mem _)
      have tn1 : ((n1 : Int) != (n1 : Int)) = false := by simp
      go_wp2_with fail
      go_loopw [17] (fun s wr => ∃ q : Nat, q ≤ n1 ∧ s = .int .i64 (q : Int) ∧ Below w5.heap.size w5 wr) (fun s _ => n1 - (intOf s).toNat)
      case atStart => exact ⟨0, Nat.zero_le _, rfl, Below.refl _ _⟩
      case round =>
        obtain ⟨q, hq, rfl, hbw⟩ := hrel
        have HBW := Lib.hid hbw
        clear hbw
        by_cases hql : q < n1
        · have hqi : q + 1 < i := by have := HN1.out; omega
          have HR6 := HR5.out.below HBW.out
          have HS6 := HS5.out.below HBW.out
          have hfm := HFM.out q hql
          obtain ⟨g6, cp6, hv6, _, _, _, hcell6, _⟩ := owns_form (owns_mod HO5.out (Mod.of_below (F := fun _ => False) HBW.out) (fun _ _ h => h)) (by omega)
          injection hv6 with e6 _ e6'
          subst e6'
          subst e6
          have cF := hcell6 q (by omega)
          rw [natV_get (by rw [HFL.out, HN1.out]; exact hql), HFE.out q hql] at cF
          obtain ⟨_, _, cN, cD, _⟩ := HS6.cell q hql
          obtain ⟨_, _, cN2, cD2, _⟩ := HR6.cell q hql
          have haS := HS6.adr (by omega)
          have haR := HR6.adr (by omega)
          obtain ⟨_, _, cW⟩ := (HE5.out.below HBW.out).cell _ hfm
          have haE := HE5.out.adr (by omega)
          subst haS
          subst haR
          subst haE
          have hNW : ((runL i 1 d).getD q mg0).N = wI l (fe i l q) := HSG.out q hqi
          have hD1 : ((runL i 1 d).getD q mg0).D = 1 := single_den HDO.out hqi
          have hW : (EA l (fe i l q)).W = wI l (fe i l q) := rfl
          obtain ⟨hD2, hle, r, hrm, hrw⟩ := HCP.out q hqi
          have HFND : Hid (fndT l ((runL i 2 d).getD q mg0).N m = true) := fndT_of hrw m hrm
          rw [hNW] at cN
          rw [hD1] at cD
          rw [hW] at cW
          rw [hD2] at cD2
          rw [Nat.zero_add] at cN cD cW cN2 cD2
          clear hcell6 HR6 HS6 hNW hD1 hW hD2 hrw hrm
          generalize fe i l q = f at *
          generalize wI l f = W0 at *
          generalize ((runL i 2 d).getD q mg0).N = N2 at *
          have g1 : (q : Int) < (n1 : Int) := by omega
          have g2 : (0 : Int) ≤ (q : Int) := by omega
          have g3 : (f : Int) < (m : Int) := by omega
          have g4 : (0 : Int) ≤ (f : Int) := by omega
          have tf1 : decide ((f : Int) < 0) = false := decide_eq_false (by omega)
          have tf2 : decide ((m : Int) ≤ (f : Int)) = false := decide_eq_false (by omega)
          have tf3 : decide (m ≤ f) = false := decide_eq_false (by omega)
          have hl4 : b4 < wr.heap.size := World.block_lt_of_cell? wr _ cN
          have hl5 : b5 < wr.heap.size := World.block_lt_of_cell? wr _ cN2
          have tf4 : decide (MM < N2) = false := decide_eq_false (by omega)
          go_wp2_with fail
          go_cut [18, 19] (fun s t wx => ∃ xb yb wc, wc = wx ∧ s = .pointer (some ⟨xb, 0, none⟩) ∧ t = .pointer (some ⟨yb, 0, none⟩) ∧ Blk wc xb 37 [.int .i64 W0, .int .i64 1] ∧ Blk wc yb 37 [.int .i64 N2, .int .i64 1] ∧ Below wr.heap.size wr wc)
          case first =>
            go_region
            all_goals
              go_wp2_with fail
              go_meet
              first
              | exact ⟨_, _, _, rfl, rfl, rfl, (two_newT wr 37 [.int .i64 W0, .int .i64 1] [.int .i64 N2, .int .i64 1]).1, (two_newT wr 37 [.int .i64 W0, .int .i64 1] [.int .i64 N2, .int .i64 1]).2.1, (two_newT wr 37 [.int .i64 W0, .int .i64 1] [.int .i64 N2, .int .i64 1]).2.2.drew⟩
              | exact ⟨_, _, _, rfl, rfl, rfl, (two_newT wr 37 [.int .i64 N2, .int .i64 1] [.int .i64 W0, .int .i64 1]).2.1, (two_newT wr 37 [.int .i64 N2, .int .i64 1] [.int .i64 W0, .int .i64 1]).1, (two_newT wr 37 [.int .i64 N2, .int .i64 1] [.int .i64 W0, .int .i64 1]).2.2.drew⟩
          case rest =>
            obtain ⟨xb, yb, wc, rfl, rfl, rfl, hxb, hyb, hbx⟩ := hcut
            replace cF := (hbx.cell (World.block_lt_of_cell? wr _ cF)).trans cF
            replace cW := (hbx.cell (World.block_lt_of_cell? wr _ cW)).trans cW
            have d0 := hxb.cell (i := 0) rfl
            have d1 := hxb.cell (i := 1) rfl
            have e0 := hyb.cell (i := 0) rfl
            have e1 := hyb.cell (i := 1) rfl
            have HBX := Lib.hid (bel_then HBW.out hbx)
            have HYB := Lib.hid hyb
            clear hxb hyb hbx cN cD cN2 cD2
            go_wp2_with fail
            go_quiet (fail)
            have HB7 := Lib.hid (bel_drewN HBX.out nq)
            replace e0 : (wc.drewN nq).cell? ⟨yb, 0, none⟩ = some (.int .i64 N2) := e0
            have HY7 : Hid (Blk (wc.drewN nq) yb 37 [.int .i64 N2, .int .i64 1]) := HYB.out.drewN nq
            clear cF cW d0 d1 e0 e1 HBX HYB tf1 tf2 tf3 tf4 g3 g4
            generalize wc.drewN nq = w7 at *
            go_wp2_with fail
            go_loopw [20, 21] (fun s t wr => ∃ j : Nat, j ≤ m ∧ t = .int .i64 (j : Int) ∧ s = .bool (fndT l N2 j) ∧ Below w7.heap.size w7 wr) (fun _ t _ => m - (intOf t).toNat)
            case atStart => exact ⟨0, Nat.zero_le _, rfl, rfl, Below.refl _ _⟩
            case round =>
              obtain ⟨j, hj, rfl, rfl, hbz⟩ := hrel
              have HBZ := Lib.hid hbz
              clear hbz
              by_cases hjm : j < m
              · have HFJ : Hid (fndT l N2 (j + 1) = (fndT l N2 j || decide (wI l j = N2))) := rfl
                have g3 : (j : Int) < (m : Int) := by omega
                have g4 : (0 : Int) ≤ (j : Int) := by omega
                cases hfj : fndT l N2 j with
                | true =>
                  rw [hfj] at HFJ
                  rw [Bool.true_or] at HFJ
                  clear hfj
                  go_wp2_with fail
                  go_quiet (fail)
                  go_wp2_with fail
                  go_roundw
                  case rel => exact ⟨j + 1, by omega, by go_num, by rw [HFJ.out], bel_drewN HBZ.out nq⟩
                  case measure => simp [intOf]; omega
                | false =>
                  rw [hfj] at HFJ
                  rw [Bool.false_or] at HFJ
                  obtain ⟨_, _, cW⟩ := (HE5.out.below (bel_then HB7.out HBZ.out)).cell j hjm
                  have hW : (EA l j).W = wI l j := rfl
                  rw [hW, Nat.zero_add] at cW
                  have e0 := (HY7.out.below HBZ.out HY7.out.lt).cell (i := 0) rfl
                  generalize wI l j = Wj at *
                  obtain ⟨bq, hbq⟩ : ∃ bq, (Wj == N2) = bq := ⟨_, rfl⟩
                  have HFJ2 : Hid (fndT l N2 (j + 1) = bq) := by
                    show _ = _
                    rw [HFJ.out, ← hbq]
                    by_cases e : Wj = N2
                    · rw [decide_eq_true e, e]; simp
                    · rw [decide_eq_false e]; exact (beq_eq_false_iff_ne.2 e).symm
                  clear hfj HFJ hW
                  go_wp2_with fail
                  go_quiet (fail)
                  go_wp2_with fail
                  go_roundw
                  case rel => exact ⟨j + 1, by omega, by go_num, by rw [HFJ2.out], bel_drewN HBZ.out nq⟩
                  case measure => simp [intOf]; omega
              · obtain rfl : j = m := by omega
                have hft := HFND.out
                have HB8 := Lib.hid (bel_then HB7.out HBZ.out)
                rw [hft]
                clear hft HB7 HBZ
                go_wp2_with fail
                go_roundw
                case rel => exact ⟨q + 1, by omega, by go_num, HB8.out⟩
                case measure => simp [intOf]; omega
        · obtain rfl : q = n1 := by omega
          have HB8 := Lib.hid (bel_then HB5.out HBW.out)
          clear HBW HB5
          go_wp2_with fail
          with_reducible refine (works_ok wr).mono ?_
          rintro e w9 ⟨rfl, hb⟩
          have HF := Lib.hid (bel_then HB8.out hb)
          clear hb
          go_wp2_with fail
          go_ret
          exact ⟨rfl, by rw [HDB.out] at *; exact HF.out⟩

end Go.Proofs.Ythacjealoomioaa.Lk
