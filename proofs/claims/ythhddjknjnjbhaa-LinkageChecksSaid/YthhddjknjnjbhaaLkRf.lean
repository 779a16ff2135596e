/- The reference of layer 23: Between. -/
import Derived.Test.YthhddjknjnjbhaaLkRd
import Derived.Test.YthhddjknjnjbhaaLkRe
import Derived.Test.YthhddjknjnjbhaaApp
namespace Go.Proofs.Ythhddjknjnjbhaa
set_option linter.unusedVariables false
set_option linter.unusedSimpArgs false
open Go.RowKit

theorem wpList_run {P : Program} {ops : Array Oper} {rest : List Oper} {d : Tmp} {t ty : TypeId} {s x : Operand} {pos : String} {aft : Array Edge} {a : Act} {Q : Exit → Act → World → Prop} {w : World}
    (sv xv v' : Value) (w' : World) (hs : a.eval s = sv) (hx : a.eval x = xv) (hr : (Builtin.append_ #[t, t] ty #[sv, xv]).run P w = .ok v' w')
    (h : wpList P ops Q rest (a.put (some d) v') w') :
    wpList P ops Q (⟨some d, .call { callee := .builtin .append, args := #[s, x], argTypes := #[t, t] }, ty, pos, aft, none⟩ :: rest) a w := by
  refine wpList_plain rfl fun K hK => ?_
  unfold Oper.wp execOp
  simp only [resolve, invoke, builtin, Sem.run_bind, Sem.run_pure, Result.andThen_ok, List.map_toArray, List.map_cons, List.map_nil, hs, hx, hr]
  exact hK _ _ h

theorem Try.infoIntF : (Try.prog.info? 3).map (fun i => (i.zero, i.size, i.bytes)) = some (some (.int .i64 0), 1, 8) := by kernel_rfl

/-- 'append(s, x...)' of a slice of ints that came in to a row of the program's own. -/
theorem run_appIn (w : World) (v : Value) (n : Nat) (xs : List Int) (hown : w.ownsRow 0 3 1 v n (xs.map fun y => .int .i64 y)) (ao : Option Addr) (len cap b off : Nat) (z : List Int) (h : InRow .i64 w ao len b off z) (hc : ao = none → cap = 0) (hl : n + len ≤ 1000000) :
    ∃ v' w', (Builtin.append_ #[36, 36] 36 #[v, .slice ao len cap]).run Try.prog w = .ok v' w' ∧ w'.ownsRow 0 3 1 v' (n + len) ((xs ++ z).map fun x => .int .i64 x) ∧ w.grownBy w' v.ownBlock ∧
      (∀ k, v'.ownBlock = some k → v.ownBlock = some k ∨ w.heap.size ≤ k) := by
  cases ao with
  | none =>
    have h0 : len = 0 := by
      apply Classical.byContradiction
      intro hh
      have := h.adr (by omega)
      cases this
    subst h0
    have hz : z = [] := List.eq_nil_of_length_eq_zero h.size
    subst hz
    rw [hc rfl]
    rcases hown.2 with ⟨rfl, rfl⟩ | ⟨g, cap', cur, rfl, hbg, hgg, hnc, hcm, hcs, htake⟩
    · exact ⟨_, _, run_append_nil w _ _ _ _ _ _ Try.underlying36 Try.infoIntF none 0 0 (Nat.le_refl _), by simpa using hown, World.grownBy.refl _ _, fun k hk => .inl hk⟩
    · exact ⟨_, _, run_append_nil w _ _ _ _ _ _ Try.underlying36 Try.infoIntF _ _ _ hnc, by simpa using hown, World.grownBy.refl _ _, fun k hk => .inl hk⟩
  | some ad =>
    obtain ⟨v', w', h1, h2, h3, h4⟩ := run_appendB (P := Try.prog) w 36 36 _ _ _ _ Try.underlying36 Try.infoIntF rfl (by decide) v n (xs.map fun y => .int .i64 y) hown ad len cap (z.map fun x => .int .i64 x) (by simp [h.size]) (by
      intro j u hu
      have hj : j < len := by have := (List.getElem?_eq_some_iff.1 hu).1; simp [h.size] at this; exact this
      have e := h.adr (by omega)
      cases e
      have hadd : (⟨b, off, none⟩ : Addr).add j = ⟨b, off + j, none⟩ := by unfold Addr.add; split <;> simp_all
      rw [hadd, h.cell j hj]
      rw [List.getElem?_map] at hu
      rw [List.getD_eq_getElem?_getD]
      cases hz : z[j]? with
      | none => rw [hz] at hu; cases hu
      | some x => rw [hz] at hu; simpa using hu) (one_ints z) (by unfold maxLen; omega) (by omega)
    exact ⟨v', w', h1, by rw [List.map_append]; exact h2, h3, h4⟩

/-- 'append([]int{}, x...)': a copy. -/
theorem run_copyI (w : World) (ao : Option Addr) (len cap b off : Nat) (z : List Int) (h : InRow .i64 w ao len b off z) (hc : ao = none → cap = 0) (hl : len ≤ 1000000) :
    ∃ v' w', (Builtin.append_ #[36, 36] 36 #[.slice (some ⟨w.heap.size, 0, none⟩) 0 0, .slice ao len cap]).run Try.prog (w.alloc (.cells #[] 3)) = .ok v' w' ∧ w'.ownsRow 0 3 1 v' len (z.map fun x => .int .i64 x) ∧ Below w.heap.size w w' ∧
      (∀ k, v'.ownBlock = some k → w.heap.size ≤ k) := by
  have hal : Below w.heap.size w (w.alloc (.cells #[] 3)) := (Below.refl _ _).alloc (Nat.le_refl _) _
  obtain ⟨v', w', h1, h2, h3, h4⟩ := run_appIn (w.alloc (.cells #[] 3)) (.slice (some ⟨w.heap.size, 0, none⟩) 0 0) 0 [] (owns_empty w 3) ao len cap b off z (h.below hal) hc (by omega)
  refine ⟨v', w', h1, by simpa using h2, hal.trans (grown_below h3 (fun k hk => by have : w.heap.size = k := by simpa [Value.ownBlock] using hk
                                                                                   omega) hal.size), fun k hk => ?_⟩
  rcases h4 k hk with e | e
  · have : w.heap.size = k := by simpa [Value.ownBlock] using e
    omega
  · have := hal.size; omega

theorem count_one : ∀ (l : List Int), l.Nodup → ∀ x, l.count x ≤ 1
  | [], _, x => by simp
  | y :: l, h, x => by
    obtain ⟨h1, h2⟩ := List.nodup_cons.1 h
    rw [List.count_cons]
    by_cases e : y = x
    · subst e
      rw [List.count_eq_zero.2 h1]; simp
    · have := count_one l h2 x
      simp [e]; exact this

theorem nodup_of_count : ∀ (l : List Int), (∀ x ∈ l, l.count x ≤ 1) → l.Nodup
  | [], _ => List.nodup_nil
  | y :: l, h => by
    refine List.nodup_cons.2 ⟨fun hm => ?_, nodup_of_count l fun x hx => ?_⟩
    · have h1 := h y (by simp)
      rw [List.count_cons_self] at h1
      have := List.count_pos_iff.2 hm
      omega
    · have h1 := h x (by simp [hx])
      rw [List.count_cons] at h1
      omega

theorem distR_betL {n : Nat} {d : List Int} {m : Int} {a b : List Int} (hm : m = 1 ∨ m = 2 ∨ m = 3) (hc : checkL n d = 0) (h : disL n a b = 0) : betL n d m a b = ((distR m n d (toN a) (toN b)).1, (distR m n d (toN a) (toN b)).2, 0) := by
  by_cases h3 : m = 3
  · subst h3
    rw [betL_3 hc h]
    unfold distR
    rw [if_pos rfl]
    simp [toN]
  · rw [betL_1 hm h3 hc h]
    unfold distR
    rw [if_neg h3]

set_option maxHeartbeats 8000000 in
set_option maxRecDepth 100000 in
theorem rbetween_ok (w : World) (n : Int) (m : Int) (ao : Option Addr) (len cap b off : Nat) (d : List Int) (hz : InRow .i64 w ao len b off d) (hlen : len ≤ 9223372036854775807)
    (xo yo : Option Addr) (la lb ca cb pa pb oa ob : Nat) (xs ys : List Int) (hx : InRow .i64 w xo la pa oa xs) (hy : InRow .i64 w yo lb pb ob ys) (hla : la ≤ 30) (hlb : lb ≤ 30) (hxc : xo = none → ca = 0) (hyc : yo = none → cb = 0) :
    Calls Try.prog 16 #[.int .i64 n, .slice ao len cap, .int .i64 m, .slice xo la ca, .slice yo lb cb] w (RetB (betV (betL n d m xs ys)) w) := by
  have HZ := Lib.hid hz
  have HX := Lib.hid hx
  have HY := Lib.hid hy
  have HXC := Lib.hid hxc
  have HYC := Lib.hid hyc
  clear hz hx hy hxc hyc
  go_enter Try.func16, Try.ntmps16
  go_wp2_with fail
  generalize hW : World.alloc w _ = W
  have B0 : Hid (Blk W w.heap.size 38 [.int .i64 0, .int .i64 0]) := by show Blk _ _ _ _; rw [← hW]; exact Blk.new w _ _
  have HB : Hid (Below w.heap.size w W) := by show Below _ _ _; rw [← hW]; exact (Below.refl _ _).alloc (Nat.le_refl _) _
  clear hW
  with_reducible refine (method_ok m W).mono ?_
  rintro e w1 ⟨rfl, rfl⟩
  by_cases hm : m = 1 ∨ m = 2 ∨ m = 3
  · rw [decide_eq_true hm]
    have HM := Lib.hid hm
    clear hm
    go_wp2_with fail
    with_reducible refine (rcheck_any W n ao len cap b off d (HZ.out.below HB.out) hlen).mono ?_
    rintro e w1 ⟨rfl, hb1⟩
    have B1 := Lib.hid (B0.out.below hb1 B0.out.lt)
    have HB1 := Lib.hid (HB.out.trans (hb1.mono HB.out.size))
    clear hb1 B0 HB
    by_cases hc : checkL n d = 0
    · obtain ⟨k, rfl⟩ := checkL_nat hc
      have HDO := Lib.hid (DOk.of_check hc)
      have hk := HDO.out.hn
      have HC := Lib.hid hc
      rw [hc]
      clear hc
      obtain ⟨v2, w2, hr2, ho2, hb2, hn2⟩ := run_copyI w1 xo la ca pa oa xs (HX.out.below HB1.out) HXC.out (by omega)
      obtain ⟨v3, w3, hr3, ho3, hg3, hn3⟩ := run_appIn w2 v2 la xs ho2 yo lb cb pb ob ys ((HY.out.below HB1.out).below hb2) HYC.out (by omega)
      have hb3 : Below w1.heap.size w1 w3 := hb2.trans (grown_below hg3 hn2 hb2.size)
      have B3 := Lib.hid (B1.out.below hb3 B1.out.lt)
      have HB3 := Lib.hid (HB1.out.trans (hb3.mono HB1.out.size))
      obtain ⟨so, sc, rfl⟩ := owns_slice ho2
      have hll : (xs ++ ys).length = la + lb := by rw [List.length_append, HX.out.size, HY.out.size]
      rw [← hll] at ho3
      obtain ⟨qo, qc, qb, rfl, hq, _⟩ := owns_row ho3
      rw [hll] at hq hr3
      have HQ := Lib.hid hq
      have HR2 := Lib.hid hr2
      have HR3 := Lib.hid hr3
      have HLL := Lib.hid hll
      clear hr2 ho2 hb2 hn2 hr3 ho3 hg3 hn3 hb3 hq hll B1 HB1
      go_wp2_with (at_builtin; first | (with_reducible refine wpList_run (.slice (some ⟨w1.heap.size, 0, none⟩) 0 0) (.slice xo la ca) (.slice so la sc) w2 rfl rfl HR2.out ?_) | (with_reducible refine wpList_run (.slice so la sc) (.slice yo lb cb) (.slice qo (la + lb) qc) w3 rfl rfl HR3.out ?_))
      have hL : la + lb ≤ 60 := by omega
      obtain ⟨L, HLE⟩ : ∃ L, Hid (la + lb = L) := ⟨_, rfl⟩
      rw [HLE.out] at hL HQ HLL
      simp only [HLE.out]
      clear HR2 HR3
      go_loopw [14] (fun s wr => ∃ i : Nat, i ≤ L ∧ s = .int .i64 i ∧ inB k ((xs ++ ys).take i) ∧ wr = w3) (fun s _ => L - (intOf s).toNat)
      case atStart => exact ⟨0, Nat.zero_le _, rfl, (fun x hx => by simp at hx), rfl⟩
      case round =>
        obtain ⟨i, hi, rfl, hall, hwr⟩ := hrel
        have HALL := Lib.hid hall
        subst hwr
        clear hall
        by_cases hil : i < L
        · obtain rfl := HQ.out.adr (by omega)
          have hix : i < (xs ++ ys).length := by rw [HLL.out]; exact hil
          have c1 := HQ.out.cell i hil
          rw [Nat.zero_add] at c1
          have HMEM : Hid ((xs ++ ys).getD i 0 ∈ xs ++ ys) := getD_mem hix
          obtain ⟨x, HXE⟩ : ∃ x, Hid ((xs ++ ys).getD i 0 = x) := ⟨_, rfl⟩
          rw [HXE.out] at c1 HMEM
          have t1 : (i : Int) < (L : Int) := by omega
          have z0 := B3.out.cell (i := 0) rfl
          have z1 := B3.out.cell (i := 1) rfl
          have f0 := B3.out.free 0
          have f1 := B3.out.free 1
          by_cases h1 : x < 0
          · have t2 : decide (x < 0) = true := by simp [h1]
            have HE : Hid (betL k d m xs ys = (0, 0, 3)) := by
              have e := disL_rng (n := k) HMEM.out (.inl h1)
              have := betL_d (a := xs) (b := ys) HM.out HC.out (by rw [e]; omega)
              rw [e] at this
              exact this
            clear h1
            go_wp2_with fail
            refine bodyPost_ret (v := betV (0, 0, 3)) ?_ rfl ⟨by rw [HE.out], ?_⟩
            · simp [results, Try.results16, go_sem, z0, z1, betV]
            · exact HB3.out.trans (Mod.below (F := fun x => x = w.heap.size) (((Mod.refl (fun x => x = w.heap.size) _).setCell ⟨w.heap.size, 0, none⟩ (fun _ => rfl) _).setCell ⟨w.heap.size, 1, none⟩ (fun _ => rfl) _) HB3.out.size (fun x hx => by have e : x = w.heap.size := hx; omega))
          · have t2 : decide (x < 0) = false := by simp; omega
            by_cases h2 : (k : Int) ≤ x
            · have t3 : decide ((k : Int) ≤ x) = true := by simp [h2]
              have HE : Hid (betL k d m xs ys = (0, 0, 3)) := by
                have e := disL_rng (n := k) HMEM.out (.inr h2)
                have := betL_d (a := xs) (b := ys) HM.out HC.out (by rw [e]; omega)
                rw [e] at this
                exact this
              clear h1 h2
              go_wp2_with fail
              refine bodyPost_ret (v := betV (0, 0, 3)) ?_ rfl ⟨by rw [HE.out], ?_⟩
              · simp [results, Try.results16, go_sem, z0, z1, betV]
              · exact HB3.out.trans (Mod.below (F := fun x => x = w.heap.size) (((Mod.refl (fun x => x = w.heap.size) _).setCell ⟨w.heap.size, 0, none⟩ (fun _ => rfl) _).setCell ⟨w.heap.size, 1, none⟩ (fun _ => rfl) _) HB3.out.size (fun x hx => by have e : x = w.heap.size := hx; omega))
            · have t3 : decide ((k : Int) ≤ x) = false := by simp; omega
              have H1 : Hid (0 ≤ x ∧ x < (k : Int)) := ⟨by omega, by omega⟩
              clear h1 h2
              go_wp2_with fail
              go_roundw
              case rel =>
                refine ⟨i + 1, by omega, by go_num, ?_, by first | rfl | trivial⟩
                rw [take_push hix, HXE.out]
                intro y hy
                rcases List.mem_append.1 hy with hh | hh
                · exact HALL.out y hh
                · simp at hh; rw [hh]; exact H1.out
              case measure => simp [intOf]; omega
        · obtain rfl : L = i := by omega
          have HIN : Hid (inB k (xs ++ ys)) := by
            show inB _ _
            have := HALL.out
            rwa [List.take_of_length_le (by rw [HLL.out]; exact Nat.le_refl _)] at this
          have HNA : Hid (inB k xs) := fun x hx => HIN.out x (List.mem_append_left _ hx)
          have HNB : Hid (inB k ys) := fun x hx => HIN.out x (List.mem_append_right _ hx)
          have hsx := HX.out.size
          have hsy := HY.out.size
          have z0 := B3.out.cell (i := 0) rfl
          have z1 := B3.out.cell (i := 1) rfl
          have f0 := B3.out.free 0
          have f1 := B3.out.free 1
          by_cases hae : la = 0
          · have t1 : ((la : Int) == 0) = true := by simp [hae]
            have HE : Hid (betL k d m xs ys = (0, 0, 2)) := by
              have e := disL_empty HNA.out HNB.out (.inl (by omega))
              have := betL_d (a := xs) (b := ys) HM.out HC.out (by rw [e]; omega)
              rw [e] at this
              exact this
            clear hae hsx hsy
            go_wp2_with fail
            refine bodyPost_ret (v := betV (0, 0, 2)) ?_ rfl ⟨by rw [HE.out], ?_⟩
            · simp [results, Try.results16, go_sem, z0, z1, betV]
            · exact HB3.out.trans (Mod.below (F := fun x => x = w.heap.size) (((Mod.refl (fun x => x = w.heap.size) _).setCell ⟨w.heap.size, 0, none⟩ (fun _ => rfl) _).setCell ⟨w.heap.size, 1, none⟩ (fun _ => rfl) _) HB3.out.size (fun x hx => by have e : x = w.heap.size := hx; omega))
          · have t1 : ((la : Int) == 0) = false := by simp; omega
            by_cases hbe : lb = 0
            · have t2 : ((lb : Int) == 0) = true := by simp [hbe]
              have HE : Hid (betL k d m xs ys = (0, 0, 2)) := by
                have e := disL_empty HNA.out HNB.out (.inr (by omega))
                have := betL_d (a := xs) (b := ys) HM.out HC.out (by rw [e]; omega)
                rw [e] at this
                exact this
              clear hae hbe hsx hsy
              go_wp2_with fail
              refine bodyPost_ret (v := betV (0, 0, 2)) ?_ rfl ⟨by rw [HE.out], ?_⟩
              · simp [results, Try.results16, go_sem, z0, z1, betV]
              · exact HB3.out.trans (Mod.below (F := fun x => x = w.heap.size) (((Mod.refl (fun x => x = w.heap.size) _).setCell ⟨w.heap.size, 0, none⟩ (fun _ => rfl) _).setCell ⟨w.heap.size, 1, none⟩ (fun _ => rfl) _) HB3.out.size (fun x hx => by have e : x = w.heap.size := hx; omega))
            · have t2 : ((lb : Int) == 0) = false := by simp; omega
              have HNE : Hid (¬ (xs.length = 0 ∨ ys.length = 0)) := by show ¬ _; omega
              have hla0 : 0 < la := by omega
              have hlb0 : 0 < lb := by omega
              clear hae hbe hsx hsy
              go_wp2_with fail
              obtain ⟨wq, hwq⟩ : ∃ wq : World, wq = wr := ⟨_, rfl⟩
              go_loopw [15] (fun s wr => ∃ i : Nat, i ≤ L ∧ s = .int .i64 i ∧ (∀ p, p < i → (xs ++ ys).count ((xs ++ ys).getD p 0) ≤ 1) ∧ wr = wq) (fun s _ => L - (intOf s).toNat)
              case atStart => exact ⟨0, Nat.zero_le _, rfl, (fun p hp => by omega), hwq.symm⟩
              case round =>
                obtain ⟨i, hi2, rfl, hcnt, hwr⟩ := hrel
                have HCNT := Lib.hid hcnt
                subst hwr
                subst hwq
                clear hcnt
                by_cases hil2 : i < L
                · obtain rfl := HQ.out.adr (by omega)
                  have hix : i < (xs ++ ys).length := by rw [HLL.out]; exact hil2
                  have c1 := HQ.out.cell i hil2
                  rw [Nat.zero_add] at c1
                  obtain ⟨x, HXE⟩ : ∃ x, Hid ((xs ++ ys).getD i 0 = x) := ⟨_, rfl⟩
                  rw [HXE.out] at c1
                  have t3 : (i : Int) < (L : Int) := by omega
                  obtain ⟨cn, HCN⟩ : ∃ cn, Hid ((xs ++ ys).count x = cn) := ⟨_, rfl⟩
                  have hcl := rcount_ok wr (some ⟨qb, 0, none⟩) L qc qb 0 (xs ++ ys) HQ.out (by omega) x
                  rw [HCN.out] at hcl
                  have HCL := Lib.hid hcl
                  clear hcl
                  go_wp2_with fail
                  with_reducible refine HCL.out.mono ?_
                  rintro e w4 ⟨rfl, rfl⟩
                  by_cases h1 : 1 < cn
                  · have t4 : decide (1 < cn) = true := by simp [h1]
                    have t4' : decide ((1 : Int) < (cn : Int)) = true := by simp; omega
                    have HE : Hid (betL k d m xs ys = (0, 0, 2)) := by
                      have e := disL_dup HNA.out HNB.out (fun hnd => by have h5 := count_one _ hnd x; rw [HCN.out] at h5; omega)
                      have := betL_d (a := xs) (b := ys) HM.out HC.out (by rw [e]; omega)
                      rw [e] at this
                      exact this
                    clear h1
                    go_wp2_with fail
                    refine bodyPost_ret (v := betV (0, 0, 2)) ?_ rfl ⟨by rw [HE.out], ?_⟩
                    · simp [results, Try.results16, go_sem, z0, z1, betV]
                    · exact HB3.out.trans (Mod.below (F := fun x => x = w.heap.size) (((Mod.refl (fun x => x = w.heap.size) _).setCell ⟨w.heap.size, 0, none⟩ (fun _ => rfl) _).setCell ⟨w.heap.size, 1, none⟩ (fun _ => rfl) _) HB3.out.size (fun x hx => by have e : x = w.heap.size := hx; omega))
                  · have t4 : decide (1 < cn) = false := by simp; omega
                    have t4' : decide ((1 : Int) < (cn : Int)) = false := by simp; omega
                    have H1 := Lib.hid h1
                    clear h1
                    go_wp2_with fail
                    go_roundw
                    case rel =>
                      refine ⟨i + 1, by omega, by go_num, fun p hp => ?_, by first | rfl | trivial⟩
                      by_cases e : p < i
                      · exact HCNT.out p e
                      · obtain rfl : p = i := by omega
                        rw [HXE.out, HCN.out]
                        have := H1.out
                        omega
                    case measure => simp [intOf]; omega
                · obtain rfl : L = i := by omega
                  have HNOD : Hid ((xs ++ ys).Nodup) := nodup_of_count _ (fun x hx => by
                    obtain ⟨p, hp, rfl⟩ := List.getElem_of_mem hx
                    have h5 := HCNT.out p (by rw [HLL.out] at hp; exact hp)
                    rw [List.getD_eq_getElem?_getD, List.getElem?_eq_getElem hp] at h5
                    exact h5)
                  have HDI : Hid (disL k xs ys = 0) := disL_ok HNA.out HNB.out HNE.out HNOD.out
                  have HE := Lib.hid (distR_betL HM.out HC.out HDI.out)
                  clear z0 z1 f0 f1
                  go_wp2_with fail
                  with_reducible refine (rdist_ok wr k m HM.out ao len cap b off d (HZ.out.below HB3.out) HDO.out xo yo la lb ca cb pa pb oa ob xs ys (HX.out.below HB3.out) (HY.out.below HB3.out) (by omega) (by omega) hla0 hlb0 HNA.out HNB.out).mono ?_
                  rintro e w4 ⟨rfl, hb4⟩
                  have B5 := Lib.hid (B3.out.below hb4 B3.out.lt)
                  have HB5 := Lib.hid (HB3.out.trans (hb4.mono HB3.out.size))
                  clear hb4
                  have z0 := B5.out.cell (i := 0) rfl
                  have z1 := B5.out.cell (i := 1) rfl
                  have f0 := B5.out.free 0
                  have f1 := B5.out.free 1
                  obtain ⟨p, HP⟩ : ∃ p, Hid ((distR m k d (toN xs) (toN ys)).1 = p) := ⟨_, rfl⟩
                  obtain ⟨q, HQ2⟩ : ∃ q, Hid ((distR m k d (toN xs) (toN ys)).2 = q) := ⟨_, rfl⟩
                  rw [HP.out, HQ2.out] at HE ⊢
                  go_wp2_with fail
                  refine bodyPost_ret (v := betV (p, q, 0)) ?_ rfl ⟨by rw [HE.out], ?_⟩
                  · simp [results, Try.results16, go_sem, z0, z1, betV]
                  · exact HB5.out.trans (Mod.below (F := fun x => x = w.heap.size) (((Mod.refl (fun x => x = w.heap.size) _).setCell ⟨w.heap.size, 0, none⟩ (fun _ => rfl) _).setCell ⟨w.heap.size, 1, none⟩ (fun _ => rfl) _) HB5.out.size (fun x hx => by have e : x = w.heap.size := hx; omega))
    · have t5 : (checkL n d != 0) = true := by simp [hc]
      have HE : Hid (betL n d m xs ys = (0, 0, checkL n d)) := betL_c HM.out hc
      clear hc
      have z0 := B1.out.cell (i := 0) rfl
      have z1 := B1.out.cell (i := 1) rfl
      have f0 := B1.out.free 0
      have f1 := B1.out.free 1
      generalize checkL n d = er at *
      go_wp2_with fail
      refine bodyPost_ret (v := betV (0, 0, er)) ?_ rfl ⟨by rw [HE.out], ?_⟩
      · simp [results, Try.results16, go_sem, z0, z1, betV]
      · exact HB1.out.trans (Mod.below (F := fun x => x = w.heap.size) (((Mod.refl (fun x => x = w.heap.size) _).setCell ⟨w.heap.size, 0, none⟩ (fun _ => rfl) _).setCell ⟨w.heap.size, 1, none⟩ (fun _ => rfl) _) HB1.out.size (fun x hx => by have e : x = w.heap.size := hx; omega))
  · rw [decide_eq_false hm]
    have HE : Hid (betL n d m xs ys = (0, 0, 2)) := betL_m hm
    clear hm
    have z0 := B0.out.cell (i := 0) rfl
    have z1 := B0.out.cell (i := 1) rfl
    have f0 := B0.out.free 0
    have f1 := B0.out.free 1
    go_wp2_with fail
    refine bodyPost_ret (v := betV (0, 0, 2)) ?_ rfl ⟨by rw [HE.out], ?_⟩
    · simp [results, Try.results16, go_sem, z0, z1, betV]
    · exact HB.out.trans (Mod.below (F := fun x => x = w.heap.size) (((Mod.refl (fun x => x = w.heap.size) _).setCell ⟨w.heap.size, 0, none⟩ (fun _ => rfl) _).setCell ⟨w.heap.size, 1, none⟩ (fun _ => rfl) _) HB.out.size (fun x hx => by have e : x = w.heap.size := hx; omega))

end Go.Proofs.Ythhddjknjnjbhaa
