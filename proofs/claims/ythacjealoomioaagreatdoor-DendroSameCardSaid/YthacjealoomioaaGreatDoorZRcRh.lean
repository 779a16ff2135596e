/- RcRh. -/
import Derived.Test.YthacjealoomioaaGreatDoorZGj
import Derived.Deep.RegionHeld3
/- Reference of layer 18: Valid, Roots, Leaves, Least, Top, Labels. -/
namespace Go.Proofs.YthacjealoomioaaGreatDoor
set_option linter.unusedVariables false
set_option linter.unusedSimpArgs false
open Go.RowKit

def okV (t : Tr) : Bool := (lsL t).isSome
theorem okV_some {t : Tr} {ls : List Nat} (h : lsL t = some ls) : okV t = true := by unfold okV; rw [h]; rfl
theorem okV_none {t : Tr} (h : lsL t = none) : okV t = false := by unfold okV; rw [h]; rfl
theorem chk_okV (t : Tr) : (chk t == 0) = okV t := by
  unfold chk okV
  cases lsL t <;> rfl

/-- The roots that are met from the first i leaves on. -/
def rtsTo (t : Tr) (m : Nat) (ls : List Nat) (i : Nat) : List Nat := ((List.range i).filter fun v => decide (ls.getD (rt t m v) 0 = v)).map (rt t m)
theorem rtsTo_succ (t : Tr) (m : Nat) (ls : List Nat) (i : Nat) : rtsTo t m ls (i + 1) = if ls.getD (rt t m i) 0 = i then rtsTo t m ls i ++ [rt t m i] else rtsTo t m ls i := by
  unfold rtsTo
  rw [List.range_succ, List.filter_append]
  by_cases h : ls.getD (rt t m i) 0 = i
  · rw [if_pos h, List.filter_cons, if_pos (decide_eq_true h), List.map_append]; rfl
  · rw [if_neg h, List.filter_cons, if_neg (by rw [decide_eq_true_eq]; exact h)]; simp
theorem rtsTo_len (t : Tr) (m : Nat) (ls : List Nat) (i : Nat) : (rtsTo t m ls i).length ≤ i := by
  have := List.length_filter_le (fun v => decide (ls.getD (rt t m v) 0 = v)) (List.range i)
  rw [List.length_range] at this
  unfold rtsTo
  rw [List.length_map]
  exact this
set_option maxHeartbeats 1000000 in
set_option maxRecDepth 100000 in
theorem rvalid_ok (w : World) (A : TA) (t : Tr) (ht : TreeAt w A t) (hmm : t.left.length ≤ 1000000) : Calls Tryz.prog 21 #[A.agg t] w (RetB (.bool (okV t)) w) := by
  have HB := Lib.hid (TBox.new w A t)
  have HW := Lib.hid (bel_alloc w (.cells #[.int .i64 t.lv, .slice A.l.o t.left.length A.l.c, .slice A.r.o t.right.length A.r.c, .slice A.p.o t.par.length A.p.c, .slice A.h.o t.hgt.length A.h.c, .slice A.s.o t.siz.length A.s.c] 27))
  have HT2 := Lib.hid (ht.below HW.out)
  have HC := Lib.hid (chk_okV t)
  have c0 := HB.out.c0
  have c1 := HB.out.c1
  have c2 := HB.out.c2
  have c3 := HB.out.c3
  have c4 := HB.out.c4
  have c5 := HB.out.c5
  clear ht
  show Calls _ _ #[.agg #[.int .i64 t.lv, .slice A.l.o t.left.length A.l.c, .slice A.r.o t.right.length A.r.c, .slice A.p.o t.par.length A.p.c, .slice A.h.o t.hgt.length A.h.c, .slice A.s.o t.siz.length A.s.c]] _ _
  go_enter Tryz.func21, Tryz.ntmps21
  go_wp2_with fail
  with_reducible refine (rcheck_ok _ A t HT2.out hmm).mono ?_
  rintro e w2 ⟨rfl, hb⟩
  have HB2 := Lib.hid (bel_then HW.out hb)
  clear hb
  generalize chk t = c at *
  go_wp2_with fail
  go_ret
  exact ⟨ret_bool HC.out, HB2.out⟩

set_option maxHeartbeats 4000000 in
set_option maxRecDepth 100000 in
theorem rroots_ok (w : World) (A : TA) (t : Tr) (ht : TreeAt w A t) (hmm : t.left.length ≤ 1000000) : Calls Tryz.prog 70 #[A.agg t] w (LnPost w (rootsO t)) := by
  have HB := Lib.hid (TBox.new w A t)
  have HW := Lib.hid (bel_alloc w (.cells #[.int .i64 t.lv, .slice A.l.o t.left.length A.l.c, .slice A.r.o t.right.length A.r.c, .slice A.p.o t.par.length A.p.c, .slice A.h.o t.hgt.length A.h.c, .slice A.s.o t.siz.length A.s.c] 27))
  have HT2 := Lib.hid (ht.below HW.out)
  have c0 := HB.out.c0
  have c1 := HB.out.c1
  have c2 := HB.out.c2
  have c3 := HB.out.c3
  have c4 := HB.out.c4
  have c5 := HB.out.c5
  clear ht
  show Calls _ _ #[.agg #[.int .i64 t.lv, .slice A.l.o t.left.length A.l.c, .slice A.r.o t.right.length A.r.c, .slice A.p.o t.par.length A.p.c, .slice A.h.o t.hgt.length A.h.c, .slice A.s.o t.siz.length A.s.c]] _ _
  go_enter Tryz.func70, Tryz.ntmps70
  go_wp2_with fail
  with_reducible refine (rvalid_ok _ A t HT2.out hmm).mono ?_
  rintro e w2 ⟨rfl, hb⟩
  have HW2 := Lib.hid (bel_then HW.out hb)
  have HB2 := Lib.hid (Blk.below HB.out hb (Blk.lt HB.out))
  have HT3 := Lib.hid (HT2.out.below hb)
  clear hb c0 c1 c2 c3 c4 c5 HB HW HT2
  cases hl : lsL t with
  | none =>
    have hv := okV_none hl
    rw [hv]
    have HC := Lib.hid (rootsO_none hl)
    clear hl hv
    go_wp2_with fail
    go_ret
    exact ⟨fun _ => rfl, (fun l e => by (rw [HC.out] at e; cases e)), HW2.out⟩
  | some ls =>
    have hv := okV_some hl
    rw [hv]
    clear hv
    obtain ⟨n, hn, hv⟩ := tv_of hl
    have HV := Lib.hid hv
    have HN := Lib.hid hn
    have hn4 := hv.hn
    have hnm := hv.nm
    have hm2 := hv.two
    have HLL := Lib.hid hv.lsl
    have HLQ := Lib.hid hv.ll
    have HRQ := Lib.hid hv.rl
    have HC : Hid (rootsO t = some (rootsL t n t.par.length ls)) := by show _ = _; rw [rootsO_some hl, hn, Int.toNat_natCast]
    clear hl hv hn
    go_wp2_with fail
    go_loopw [3, 4] (fun v s wr => ∃ i : Nat, i ≤ n ∧ s = .int .i64 i ∧ wr.ownsRow 0 3 1 v (rtsTo t t.par.length ls i).length (natV (rtsTo t t.par.length ls i)) ∧ (∀ x, v.ownBlock = some x → w2.heap.size ≤ x) ∧ Below w2.heap.size w2 wr) (fun _ s _ => n - (intOf s).toNat)
    case atStart => exact ⟨0, Nat.zero_le _, rfl, World.ownsRow_nil _ _ _ _, fun x hx => (by cases hx), Below.refl _ _⟩
    case round =>
      obtain ⟨i, hi, rfl, hv, hvn, hb⟩ := hrel
      have HVR := Lib.hid hv
      have HVN := Lib.hid hvn
      have HBR := Lib.hid hb
      have HTR := Lib.hid (HT3.out.below hb)
      have HXR := Lib.hid (Blk.below HB2.out hb (Blk.lt HB2.out))
      have HWR := Lib.hid (bel_then HW2.out hb)
      have c0 := TBox.c0 HXR.out
      have c1 := TBox.c1 HXR.out
      have c2 := TBox.c2 HXR.out
      have c3 := TBox.c3 HXR.out
      have c4 := TBox.c4 HXR.out
      have c5 := TBox.c5 HXR.out
      clear hv hvn hb
      by_cases hin : i < n
      · have him : i < t.par.length := by omega
        have t4 : decide ((i : Int) < t.lv) = true := by have := HN.out; simp; omega
        have HS := Lib.hid (rtsTo_succ t t.par.length ls i)
        have htl := rtsTo_len t t.par.length ls i
        have HUP := Lib.hid (up_of HV.out i him)
        have HLOW := Lib.hid (low_of HV.out _ (rt_lt HV.out i him).1)
        generalize rt t t.par.length i = r at *
        generalize ls.getD r 0 = a at *
        generalize hT : rtsTo t t.par.length ls i = T at *
        generalize hT' : rtsTo t t.par.length ls (i + 1) = T' at *
        have HT' := Lib.hid hT'
        clear hT hT'
        go_wp2_with fail
        with_reducible refine (rroot_ok wr A t HTR.out i r HUP.out).mono ?_
        rintro e w4 ⟨rfl, hb4⟩
        have HB4 := Lib.hid hb4
        have HX4 := Lib.hid (Blk.below HXR.out hb4 (Blk.lt HXR.out))
        have HT4 := Lib.hid (HTR.out.below hb4)
        clear hb4 c0 c1 c2 c3 c4 c5
        have c0 := TBox.c0 HX4.out
        have c1 := TBox.c1 HX4.out
        have c2 := TBox.c2 HX4.out
        have c3 := TBox.c3 HX4.out
        have c4 := TBox.c4 HX4.out
        have c5 := TBox.c5 HX4.out
        go_wp2_with fail
        with_reducible refine (rleast_ok A t n HN.out HLQ.out HRQ.out r a HLOW.out w4 HT4.out).mono ?_
        rintro e w5 ⟨rfl, hb5⟩
        have HB5 := Lib.hid (bel_then HB4.out hb5)
        clear hb5 c0 c1 c2 c3 c4 c5
        by_cases hc : a = i
        · have t5 : ((a : Int) == (i : Int)) = true := by simp [hc]
          have HTT : Hid (T' = T ++ [r]) := HS.out.trans (if_pos hc)
          clear hc
          have HOW := Lib.hid ((owns_mod HVR.out (Mod.of_below (F := fun _ => False) HB5.out) (fun _ _ h => h)).alloc (.cells #[.int .i64 r] 3))
          have HNW := Lib.hid (news_new w5 3 [.int .i64 r])
          go_wp2_with (at_builtin; apply keepIt)
          apply Lib.hid
          refine wpList_appendB 3 (.int .i64 0) 1 8 Tryz.underlying24 Tryz.infoInt rfl (by decide) _ T.length _ rfl HOW.out ⟨w5.heap.size, 0, none⟩ 1 1 [.int .i64 r] rfl rfl HNW.out (by simp [Value.oneCell']) (by unfold maxLen; omega) (by omega) ?_
          intro v6 w6 ho6 hg6 hn6
          have hwr := HBR.out.size
          have hwy := (HB5.out).size
          have HB6 : Hid (Below w2.heap.size w2 w6) := ((bel_then HBR.out HB5.out).alloc (by omega) _).trans (grown_below hg6 (fun k hk => HVN.out k hk) (by simp; omega))
          have HV6 : Hid (w6.ownsRow 0 3 1 v6 T'.length (natV T')) := by
            show World.ownsRow _ _ _ _ _ _ _
            rw [HTT.out, List.length_append]
            have e : natV (T ++ [r]) = natV T ++ [.int .i64 (r : Int)] := by simp [natV]
            rw [e]
            exact ho6
          have HN6 : Hid (∀ x, v6.ownBlock = some x → w2.heap.size ≤ x) := fun x hx => by
            rcases hn6 x hx with e | e
            · exact HVN.out x e
            · have hz : w5.heap.size ≤ (w5.alloc (.cells #[.int .i64 r] 3)).heap.size := by simp
              exact Nat.le_trans hwr (Nat.le_trans hwy (Nat.le_trans hz e))
          clear ho6 hg6 hn6
          go_wp2_with fail
          go_roundw
          case rel => exact ⟨i + 1, by omega, by go_num, by rw [HT'.out]; exact HV6.out, HN6.out, HB6.out⟩
          case measure => simp [intOf]; omega
        · have t5 : ((a : Int) == (i : Int)) = false := by simp; omega
          have HTT : Hid (T' = T) := HS.out.trans (if_neg hc)
          have HV5 := Lib.hid (owns_mod HVR.out (Mod.of_below (F := fun _ => False) HB5.out) (fun _ _ h => h))
          have HBB := Lib.hid (bel_then HBR.out HB5.out)
          clear hc
          go_wp2_with fail
          go_roundw
          case rel => exact ⟨i + 1, by omega, by go_num, by rw [HT'.out, HTT.out]; exact HV5.out, HVN.out, HBB.out⟩
          case measure => simp [intOf]; omega
      · obtain rfl : i = n := by omega
        have t4 : decide ((i : Int) < t.lv) = false := by have := HN.out; simp; omega
        go_wp2_with fail
        go_ret
        refine ⟨(fun e => by (rw [HC.out] at e; cases e)), fun l e => ?_, HWR.out⟩
        rw [HC.out] at e
        injection e with e
        subst e
        refine ⟨_, rfl, HVR.out, fun k hk => ?_⟩
        have h1 := HVN.out k hk
        have h2 := HW2.out.size
        omega

end Go.Proofs.YthacjealoomioaaGreatDoor
