/- Reference of layer 18: Valid, Roots, Leaves, Least, Top, Labels. -/
import Derived.Test.YtenhbfbfkcjimaaZRcRk
import Derived.Test.YtenhbfbfkcjimaaZRcRg
import Derived.Test.YtenhbfbfkcjimaaZRcLw
import Derived.Deep.RegionHeld3
namespace Go.Proofs.Ytenhbfbfkcjimaa
set_option linter.unusedVariables false
set_option linter.unusedSimpArgs false
open Go.RowKit

def okV (t : Tr) : Bool := (lsL t).isSome
theorem okV_some {t : Tr} {ls : List Nat} (h : lsL t = some ls) : okV t = true := by unfold okV; rw [h]; rfl
theorem okV_none {t : Tr} (h : lsL t = none) : okV t = false := by unfold okV; rw [h]; rfl
theorem chk_okV (t : Tr) : (chk t == 0) = okV t := by
  unfold chk okV
  cases lsL t <;> rfl

theorem step_appB {P : Program} {ops : Array Oper} {d : Tmp} {t ty : TypeId} {s x : Operand} {po : String} {aft : Array Edge} {a : Act} {Q : Exit → Act → World → Prop} {K : Act → World → Prop} {w : World}
    (e : TypeId) (z : Value) (size bytes : Nat) (ht : P.underlying t = some (.slice e)) (hz : (P.info? e).map (fun i => (i.zero, i.size, i.bytes)) = some (some z, size, bytes))
    (hzs : z.cells.size = size) (hsz : 0 < size) (v : Value) (n : Nat) (xs : List Value) (hs : a.eval s = v) (hown : w.ownsRow 0 e size v n xs)
    (ad : Addr) (m c : Nat) (news : List Value) (hx : a.eval x = .slice (some ad) m c) (hl : news.length = m * size) (hnews : ∀ j u, news[j]? = some u → w.cell? (ad.add j) = some u) (h1 : ∀ u ∈ news, u.oneCell' = true)
    (h63 : n + m ≤ maxLen) (hbytes : (n + m) * bytes ≤ 140737488355328)
    (h : ∀ v' w', w'.ownsRow 0 e size v' (n + m) (xs ++ news) → w.grownBy w' v.ownBlock → (∀ k, v'.ownBlock = some k → v.ownBlock = some k ∨ w.heap.size ≤ k) → K (a.put (some d) v') w') :
    if Region.wanted ⟨some d, .call { callee := .builtin .append, args := #[s, x], argTypes := #[t, t] }, ty, po, aft, none⟩ (yielded ops a.tmps) = true then
      Oper.wp P ⟨some d, .call { callee := .builtin .append, args := #[s, x], argTypes := #[t, t] }, ty, po, aft, none⟩ a w K Q else K (a.put (some d) undef) w := by
  obtain ⟨v', w', hr, h2, h3, h4⟩ := run_appendB (P := P) w t ty e z size bytes ht hz hzs hsz v n xs hown ad m c news hl hnews h1 h63 hbytes
  rw [if_pos (by rfl)]
  unfold Oper.wp execOp
  simp only [resolve, invoke, builtin, Sem.run_bind, Sem.run_pure, Result.andThen_ok, List.map_toArray, List.map_cons, List.map_nil, hs, hx, hr]
  exact h v' w' h2 h3 h4

theorem eight_keepM {F : Nat → Prop} {w w' : World} {g : Nat} {v1 v2 v3 v4 v5 v6 : Value} (h1 : Hid (w.cell? ⟨g, 0, none⟩ = some v1)) (h2 : Hid (w.cell? ⟨g, 1, none⟩ = some v2)) (h3 : Hid (w.cell? ⟨g, 2, none⟩ = some v3)) (h4 : Hid (w.cell? ⟨g, 3, none⟩ = some v4)) (h5 : Hid (w.cell? ⟨g, 4, none⟩ = some v5)) (h6 : Hid (w.cell? ⟨g, 5, none⟩ = some v6)) (n : ¬ F g) (hb : Mod F w w') :
    w'.cell? ⟨g, 0, none⟩ = some v1 ∧ w'.cell? ⟨g, 1, none⟩ = some v2 ∧ w'.cell? ⟨g, 2, none⟩ = some v3 ∧ w'.cell? ⟨g, 3, none⟩ = some v4 ∧ w'.cell? ⟨g, 4, none⟩ = some v5 ∧ w'.cell? ⟨g, 5, none⟩ = some v6 ∧ Mod F w w' :=
  ⟨(hb.cell (World.block_lt_of_cell? w _ h1.out) n).trans h1.out, (hb.cell (World.block_lt_of_cell? w _ h2.out) n).trans h2.out, (hb.cell (World.block_lt_of_cell? w _ h3.out) n).trans h3.out, (hb.cell (World.block_lt_of_cell? w _ h4.out) n).trans h4.out, (hb.cell (World.block_lt_of_cell? w _ h5.out) n).trans h5.out, (hb.cell (World.block_lt_of_cell? w _ h6.out) n).trans h6.out, hb⟩

/-- What an append leaves. -/
structure AppAt (w : World) (v : Value) (n : Nat) (xs : List Value) (v' : Value) (w' : World) : Prop where
  own : w'.ownsRow 0 3 1 v' n xs
  mod : Mod (fun k => v.ownBlock = some k) w w'
  new : ∀ k, v'.ownBlock = some k → v.ownBlock = some k ∨ w.heap.size ≤ k

/-- The roots that are met from the first i leaves on. -/
def rtsTo (t : Tr) (m : Nat) (ls : List Nat) (i : Nat) : List Nat := ((List.range i).filter fun v => decide (ls.getD (rt t m v) 0 = v)).map (rt t m)
theorem rtsTo_succ (t : Tr) (m : Nat) (ls : List Nat) (i : Nat) : rtsTo t m ls (i + 1) = if ls.getD (rt t m i) 0 = i then rtsTo t m ls i ++ [rt t m i] else rtsTo t m ls i := by
  unfold rtsTo
  rw [List.range_succ, List.filter_append]
  by_cases h : ls.getD (rt t m i) 0 = i
  · rw [if_pos h, List.filter_cons, if_pos (decide_eq_true h), List.map_append]; rfl
  · rw [if_neg h, List.filter_cons, if_neg (by rw [decide_eq_true_eq]; exact h)]; simp
theorem rtsTo_len (t : Tr) (m : Nat) (ls : List Nat) (i : Nat) : (rtsTo t m ls i).length ≤ i := by
  have := List.length_filter_le (fun v => decide (ls.getD (rt t m v) 0 = v)) (List.range i)
  rw [List.length_range] at this
  unfold rtsTo
  rw [List.length_map]
  exact this
def lbsTo (t : Tr) (m : Nat) (ls : List Nat) (th : Int) (i : Nat) : List Nat := (List.range i).map fun v => ls.getD (ab t m th v) 0
theorem lbsTo_succ (t : Tr) (m : Nat) (ls : List Nat) (th : Int) (i : Nat) : lbsTo t m ls th (i + 1) = lbsTo t m ls th i ++ [ls.getD (ab t m th i) 0] := by
  unfold lbsTo
  rw [List.range_succ, List.map_append]
  rfl
theorem lbsTo_len (t : Tr) (m : Nat) (ls : List Nat) (th : Int) (i : Nat) : (lbsTo t m ls th i).length = i := by simp [lbsTo]
theorem take_next {l : List Nat} {i : Nat} (h : i < l.length) : l.take (i + 1) = l.take i ++ [l.getD i 0] := take_snocN h

set_option maxHeartbeats 1000000 in
set_option maxRecDepth 100000 in
theorem rvalid_ok (w : World) (A : TA) (t : Tr) (ht : TreeAt w A t) (hmm : t.left.length ≤ 1000000) : Calls Try.prog 68 #[A.agg t] w (RetB (.bool (okV t)) w) := by
  have HB := Lib.hid (TBox.new w A t)
  have HW := Lib.hid (bel_alloc w (.cells #[.int .i64 t.lv, .slice A.l.o t.left.length A.l.c, .slice A.r.o t.right.length A.r.c, .slice A.p.o t.par.length A.p.c, .slice A.h.o t.hgt.length A.h.c, .slice A.s.o t.siz.length A.s.c] 27))
  have HT2 := Lib.hid (ht.below HW.out)
  have HC := Lib.hid (chk_okV t)
  have c0 := HB.out.c0
  have c1 := HB.out.c1
  have c2 := HB.out.c2
  have c3 := HB.out.c3
  have c4 := HB.out.c4
  have c5 := HB.out.c5
  clear ht
  show Calls _ _ #[.agg #[.int .i64 t.lv, .slice A.l.o t.left.length A.l.c, .slice A.r.o t.right.length A.r.c, .slice A.p.o t.par.length A.p.c, .slice A.h.o t.hgt.length A.h.c, .slice A.s.o t.siz.length A.s.c]] _ _
  go_enter Try.func68, Try.ntmps68
  go_wp2_with fail
  with_reducible refine (rcheck_ok _ A t HT2.out hmm).mono ?_
  rintro e w2 ⟨rfl, hb⟩
  have HB2 := Lib.hid (bel_then HW.out hb)
  clear hb
  generalize chk t = c at *
  go_wp2_with fail
  go_ret
  exact ⟨ret_bool HC.out, HB2.out⟩

set_option maxHeartbeats 4000000 in
set_option maxRecDepth 100000 in
theorem rroots_ok (w : World) (A : TA) (t : Tr) (ht : TreeAt w A t) (hmm : t.left.length ≤ 1000000) : Calls Try.prog 42 #[A.agg t] w (LnPost w (rootsO t)) := by
  have HB := Lib.hid (TBox.new w A t)
  have HW := Lib.hid (bel_alloc w (.cells #[.int .i64 t.lv, .slice A.l.o t.left.length A.l.c, .slice A.r.o t.right.length A.r.c, .slice A.p.o t.par.length A.p.c, .slice A.h.o t.hgt.length A.h.c, .slice A.s.o t.siz.length A.s.c] 27))
  have HT2 := Lib.hid (ht.below HW.out)
  have c0 := HB.out.c0
  have c1 := HB.out.c1
  have c2 := HB.out.c2
  have c3 := HB.out.c3
  have c4 := HB.out.c4
  have c5 := HB.out.c5
  clear ht
  show Calls _ _ #[.agg #[.int .i64 t.lv, .slice A.l.o t.left.length A.l.c, .slice A.r.o t.right.length A.r.c, .slice A.p.o t.par.length A.p.c, .slice A.h.o t.hgt.length A.h.c, .slice A.s.o t.siz.length A.s.c]] _ _
  go_enter Try.func42, Try.ntmps42
  go_wp2_with fail
  with_reducible refine (rvalid_ok _ A t HT2.out hmm).mono ?_
  rintro e w2 ⟨rfl, hb⟩
  have HW2 := Lib.hid (bel_then HW.out hb)
  have HB2 := Lib.hid (Blk.below HB.out hb (Blk.lt HB.out))
  have HT3 := Lib.hid (HT2.out.below hb)
  clear hb c0 c1 c2 c3 c4 c5 HB HW HT2
  cases hl : lsL t with
  | none =>
    have hv := okV_none hl
    rw [hv]
    have HC := Lib.hid (rootsO_none hl)
    clear hl hv
    go_wp2_with fail
    go_ret
    exact ⟨fun _ => rfl, (fun l e => by (rw [HC.out] at e; cases e)), HW2.out⟩
  | some ls =>
    have hv := okV_some hl
    rw [hv]
    clear hv
    obtain ⟨n, hn, hv⟩ := tv_of hl
    have HV := Lib.hid hv
    have HN := Lib.hid hn
    have hn4 := hv.hn
    have hnm := hv.nm
    have hm2 := hv.two
    have HLL := Lib.hid hv.lsl
    have HLQ := Lib.hid hv.ll
    have HRQ := Lib.hid hv.rl
    have HC : Hid (rootsO t = some (rootsL t n t.par.length ls)) := by show _ = _; rw [rootsO_some hl, hn, Int.toNat_natCast]
    clear hl hv hn
    go_wp2_with fail
    go_loopw [3, 4] (fun v s wr => ∃ i : Nat, i ≤ n ∧ s = .int .i64 i ∧ wr.ownsRow 0 3 1 v (rtsTo t t.par.length ls i).length (natV (rtsTo t t.par.length ls i)) ∧ (∀ x, v.ownBlock = some x → w2.heap.size ≤ x) ∧ Below w2.heap.size w2 wr) (fun _ s _ => n - (intOf s).toNat)
    case atStart => exact ⟨0, Nat.zero_le _, rfl, World.ownsRow_nil _ _ _ _, fun x hx => (by cases hx), Below.refl _ _⟩
    case round =>
      obtain ⟨i, hi, rfl, hv, hvn, hb⟩ := hrel
      have HVR := Lib.hid hv
      have HVN := Lib.hid hvn
      have HBR := Lib.hid hb
      have HTR := Lib.hid (HT3.out.below hb)
      have HXR := Lib.hid (Blk.below HB2.out hb (Blk.lt HB2.out))
      have HWR := Lib.hid (bel_then HW2.out hb)
      have c0 := TBox.c0 HXR.out
      have c1 := TBox.c1 HXR.out
      have c2 := TBox.c2 HXR.out
      have c3 := TBox.c3 HXR.out
      have c4 := TBox.c4 HXR.out
      have c5 := TBox.c5 HXR.out
      clear hv hvn hb
      by_cases hin : i < n
      · have him : i < t.par.length := by omega
        have t4 : decide ((i : Int) < t.lv) = true := by have := HN.out; simp; omega
        have HS := Lib.hid (rtsTo_succ t t.par.length ls i)
        have htl := rtsTo_len t t.par.length ls i
        have HUP := Lib.hid (up_of HV.out i him)
        have HLOW := Lib.hid (low_of HV.out _ (rt_lt HV.out i him).1)
        generalize rt t t.par.length i = r at *
        generalize ls.getD r 0 = a at *
        generalize hT : rtsTo t t.par.length ls i = T at *
        generalize hT' : rtsTo t t.par.length ls (i + 1) = T' at *
        have HT' := Lib.hid hT'
        clear hT hT'
        go_wp2_with fail
        with_reducible refine (rroot_ok wr A t HTR.out i r HUP.out).mono ?_
        rintro e w4 ⟨rfl, hb4⟩
        have HB4 := Lib.hid hb4
        have HX4 := Lib.hid (Blk.below HXR.out hb4 (Blk.lt HXR.out))
        have HT4 := Lib.hid (HTR.out.below hb4)
        clear hb4 c0 c1 c2 c3 c4 c5
        have c0 := TBox.c0 HX4.out
        have c1 := TBox.c1 HX4.out
        have c2 := TBox.c2 HX4.out
        have c3 := TBox.c3 HX4.out
        have c4 := TBox.c4 HX4.out
        have c5 := TBox.c5 HX4.out
        go_wp2_with fail
        with_reducible refine (rleast_ok A t n HN.out HLQ.out HRQ.out r a HLOW.out w4 HT4.out).mono ?_
        rintro e w5 ⟨rfl, hb5⟩
        have HB5 := Lib.hid (bel_then HB4.out hb5)
        clear hb5 c0 c1 c2 c3 c4 c5
        by_cases hc : a = i
        · have t5 : ((a : Int) == (i : Int)) = true := by simp [hc]
          have HTT : Hid (T' = T ++ [r]) := HS.out.trans (if_pos hc)
          clear hc
          have HOW := Lib.hid ((owns_mod HVR.out (Mod.of_below (F := fun _ => False) HB5.out) (fun _ _ h => h)).alloc (.cells #[.int .i64 r] 3))
          have HNW := Lib.hid (news_new w5 3 [.int .i64 r])
          go_wp2_with (at_builtin; apply keepIt)
          apply Lib.hid
          refine wpList_appendB 3 (.int .i64 0) 1 8 Try.underlying24 Try.infoInt rfl (by decide) _ T.length _ rfl HOW.out ⟨w5.heap.size, 0, none⟩ 1 1 [.int .i64 r] rfl rfl HNW.out (by simp [Value.oneCell']) (by unfold maxLen; omega) (by omega) ?_
          intro v6 w6 ho6 hg6 hn6
          have hwr := HBR.out.size
          have hwy := (HB5.out).size
          have HB6 : Hid (Below w2.heap.size w2 w6) := ((bel_then HBR.out HB5.out).alloc (by omega) _).trans (grown_below hg6 (fun k hk => HVN.out k hk) (by simp; omega))
          have HV6 : Hid (w6.ownsRow 0 3 1 v6 T'.length (natV T')) := by
            show World.ownsRow _ _ _ _ _ _ _
            rw [HTT.out, List.length_append]
            have e : natV (T ++ [r]) = natV T ++ [.int .i64 (r : Int)] := by simp [natV]
            rw [e]
            exact ho6
          have HN6 : Hid (∀ x, v6.ownBlock = some x → w2.heap.size ≤ x) := fun x hx => by
            rcases hn6 x hx with e | e
            · exact HVN.out x e
            · have hz : w5.heap.size ≤ (w5.alloc (.cells #[.int .i64 r] 3)).heap.size := by simp
              exact Nat.le_trans hwr (Nat.le_trans hwy (Nat.le_trans hz e))
          clear ho6 hg6 hn6
          go_wp2_with fail
          go_roundw
          case rel => exact ⟨i + 1, by omega, by go_num, by rw [HT'.out]; exact HV6.out, HN6.out, HB6.out⟩
          case measure => simp [intOf]; omega
        · have t5 : ((a : Int) == (i : Int)) = false := by simp; omega
          have HTT : Hid (T' = T) := HS.out.trans (if_neg hc)
          have HV5 := Lib.hid (owns_mod HVR.out (Mod.of_below (F := fun _ => False) HB5.out) (fun _ _ h => h))
          have HBB := Lib.hid (bel_then HBR.out HB5.out)
          clear hc
          go_wp2_with fail
          go_roundw
          case rel => exact ⟨i + 1, by omega, by go_num, by rw [HT'.out, HTT.out]; exact HV5.out, HVN.out, HBB.out⟩
          case measure => simp [intOf]; omega
      · obtain rfl : i = n := by omega
        have t4 : decide ((i : Int) < t.lv) = false := by have := HN.out; simp; omega
        go_wp2_with fail
        go_ret
        refine ⟨(fun e => by (rw [HC.out] at e; cases e)), fun l e => ?_, HWR.out⟩
        rw [HC.out] at e
        injection e with e
        subst e
        refine ⟨_, rfl, HVR.out, fun k hk => ?_⟩
        have h1 := HVN.out k hk
        have h2 := HW2.out.size
        omega

set_option maxHeartbeats 4000000 in
set_option maxRecDepth 100000 in
theorem rleaves_ok (w : World) (A : TA) (t : Tr) (ht : TreeAt w A t) (hmm : t.left.length ≤ 1000000) (node : Int) : Calls Try.prog 43 #[A.agg t, .int .i64 node] w (LnPost w (leavesO t node)) := by
  have HB := Lib.hid (TBox.new w A t)
  have HW := Lib.hid (bel_alloc w (.cells #[.int .i64 t.lv, .slice A.l.o t.left.length A.l.c, .slice A.r.o t.right.length A.r.c, .slice A.p.o t.par.length A.p.c, .slice A.h.o t.hgt.length A.h.c, .slice A.s.o t.siz.length A.s.c] 27))
  have HT2 := Lib.hid (ht.below HW.out)
  have c0 := HB.out.c0
  have c1 := HB.out.c1
  have c2 := HB.out.c2
  have c3 := HB.out.c3
  have c4 := HB.out.c4
  have c5 := HB.out.c5
  clear ht
  show Calls _ _ #[.agg #[.int .i64 t.lv, .slice A.l.o t.left.length A.l.c, .slice A.r.o t.right.length A.r.c, .slice A.p.o t.par.length A.p.c, .slice A.h.o t.hgt.length A.h.c, .slice A.s.o t.siz.length A.s.c], _] _ _
  go_enter Try.func43, Try.ntmps43
  go_wp2_with fail
  with_reducible refine (rvalid_ok _ A t HT2.out hmm).mono ?_
  rintro e w2 ⟨rfl, hb⟩
  have HW2 := Lib.hid (bel_then HW.out hb)
  have HB2 := Lib.hid (Blk.below HB.out hb (Blk.lt HB.out))
  have HT3 := Lib.hid (HT2.out.below hb)
  clear hb c0 c1 c2 c3 c4 c5 HB HW HT2
  cases hl : lsL t with
  | none =>
    have hv := okV_none hl
    rw [hv]
    have HC := Lib.hid (leavesO_none (node := node) hl)
    clear hl hv
    go_wp2_with fail
    go_ret
    exact ⟨fun _ => rfl, (fun l e => by (rw [HC.out] at e; cases e)), HW2.out⟩
  | some ls =>
    have hv := okV_some hl
    rw [hv]
    clear hv
    obtain ⟨n, hn, hv⟩ := tv_of hl
    have HV := Lib.hid hv
    have HN := Lib.hid hn
    have hn4 := hv.hn
    have hnm := hv.nm
    have hm2 := hv.two
    have HLL := Lib.hid hv.lsl
    have HLQ := Lib.hid hv.ll
    have HRQ := Lib.hid hv.rl
    have b1 := TBox.c1 HB2.out
    by_cases h1 : node < 0
    · have t1 : decide (node < 0) = true := by simp [h1]
      have HC := Lib.hid (leavesO_out (t := t) (.inl h1))
      clear hl hv hn h1
      go_wp2_with fail
      go_ret
      exact ⟨fun _ => rfl, (fun l e => by (rw [HC.out] at e; cases e)), HW2.out⟩
    have t1 : decide (node < 0) = false := by simp; omega
    by_cases h2 : (t.left.length : Int) ≤ node
    · have t2 : decide ((t.left.length : Int) ≤ node) = true := by simp [h2]
      have HC := Lib.hid (leavesO_out (t := t) (node := node) (.inr (by have := hv.ll; omega)))
      clear hl hv hn h1 h2
      go_wp2_with fail
      go_ret
      exact ⟨fun _ => rfl, (fun l e => by (rw [HC.out] at e; cases e)), HW2.out⟩
    have hC := leavesO_some (node := node) hl (fun h => by have := hv.ll; rcases h with h | h <;> omega)
    obtain ⟨nd, rfl⟩ := Int.eq_ofNat_of_zero_le (show 0 ≤ node by omega)
    rw [hn, Int.toNat_natCast, Int.toNat_natCast] at hC
    have HC := Lib.hid hC
    have t2 : decide (t.left.length ≤ nd) = false := by simp; omega
    clear hl hv hn h1 h2 hC t1
    go_wp2_with fail
    clear b1 t2
    go_loopw [5, 6] (fun v s wr => ∃ i : Nat, i ≤ n ∧ s = .int .i64 i ∧ wr.ownsRow 0 3 1 v (lvTo t t.par.length nd i).length (natV (lvTo t t.par.length nd i)) ∧ (∀ x, v.ownBlock = some x → w2.heap.size ≤ x) ∧ Below w2.heap.size w2 wr) (fun _ s _ => n - (intOf s).toNat)
    case atStart => exact ⟨0, Nat.zero_le _, rfl, World.ownsRow_nil _ _ _ _, fun x hx => (by cases hx), Below.refl _ _⟩
    case round =>
      obtain ⟨i, hi, rfl, hv, hvn, hb⟩ := hrel
      have HVR := Lib.hid hv
      have HVN := Lib.hid hvn
      have HBR := Lib.hid hb
      have HTR := Lib.hid (HT3.out.below hb)
      have HXR := Lib.hid (Blk.below HB2.out hb (Blk.lt HB2.out))
      have HWR := Lib.hid (bel_then HW2.out hb)
      have c0 := TBox.c0 HXR.out
      have c1 := TBox.c1 HXR.out
      have c2 := TBox.c2 HXR.out
      have c3 := TBox.c3 HXR.out
      have c4 := TBox.c4 HXR.out
      have c5 := TBox.c5 HXR.out
      clear hv hvn hb
      by_cases hin : i < n
      · have him : i < t.par.length := by omega
        have t4 : decide ((i : Int) < t.lv) = true := by have := HN.out; simp; omega
        have HS := Lib.hid (lvTo_succ t t.par.length nd i)
        have htl := lvTo_len t t.par.length nd i
        obtain ⟨b, HBL⟩ : ∃ b, Hid (bl t t.par.length nd i = b) := ⟨_, rfl⟩
        rw [HBL.out] at HS
        generalize hT : lvTo t t.par.length nd i = T at *
        generalize hT' : lvTo t t.par.length nd (i + 1) = T' at *
        have HT' := Lib.hid hT'
        clear hT hT'
        go_wp2_with fail
        have hcon := rbelow_ok wr A t HTR.out HV.out i nd him
        rw [HBL.out] at hcon
        with_reducible refine hcon.mono ?_
        rintro e w5 ⟨rfl, hb5⟩
        have HB5 := Lib.hid hb5
        clear hb5 c0 c1 c2 c3 c4 c5 hcon
        cases b with
        | true =>
          have HTT : Hid (T' = T ++ [i]) := HS.out.trans (if_pos rfl)
          have HOW := Lib.hid ((owns_mod HVR.out (Mod.of_below (F := fun _ => False) HB5.out) (fun _ _ h => h)).alloc (.cells #[.int .i64 i] 3))
          have HNW := Lib.hid (news_new w5 3 [.int .i64 i])
          go_wp2_with (at_builtin; apply keepIt)
          apply Lib.hid
          refine wpList_appendB 3 (.int .i64 0) 1 8 Try.underlying24 Try.infoInt rfl (by decide) _ T.length _ rfl HOW.out ⟨w5.heap.size, 0, none⟩ 1 1 [.int .i64 i] rfl rfl HNW.out (by simp [Value.oneCell']) (by unfold maxLen; omega) (by omega) ?_
          intro v6 w6 ho6 hg6 hn6
          have hwr := HBR.out.size
          have hwy := (HB5.out).size
          have HB6 : Hid (Below w2.heap.size w2 w6) := ((bel_then HBR.out HB5.out).alloc (by omega) _).trans (grown_below hg6 (fun k hk => HVN.out k hk) (by simp; omega))
          have HV6 : Hid (w6.ownsRow 0 3 1 v6 T'.length (natV T')) := by
            show World.ownsRow _ _ _ _ _ _ _
            rw [HTT.out, List.length_append]
            have e : natV (T ++ [i]) = natV T ++ [.int .i64 (i : Int)] := by simp [natV]
            rw [e]
            exact ho6
          have HN6 : Hid (∀ x, v6.ownBlock = some x → w2.heap.size ≤ x) := fun x hx => by
            rcases hn6 x hx with e | e
            · exact HVN.out x e
            · have hz : w5.heap.size ≤ (w5.alloc (.cells #[.int .i64 i] 3)).heap.size := by simp
              exact Nat.le_trans hwr (Nat.le_trans hwy (Nat.le_trans hz e))
          clear ho6 hg6 hn6
          go_wp2_with fail
          go_roundw
          case rel => exact ⟨i + 1, by omega, by go_num, by rw [HT'.out]; exact HV6.out, HN6.out, HB6.out⟩
          case measure => simp [intOf]; omega
        | false =>
          have HTT : Hid (T' = T) := HS.out.trans (if_neg (by decide))
          have HV5 := Lib.hid (owns_mod HVR.out (Mod.of_below (F := fun _ => False) HB5.out) (fun _ _ h => h))
          have HBB := Lib.hid (bel_then HBR.out HB5.out)
          go_wp2_with fail
          go_roundw
          case rel => exact ⟨i + 1, by omega, by go_num, by rw [HT'.out, HTT.out]; exact HV5.out, HVN.out, HBB.out⟩
          case measure => simp [intOf]; omega
      · obtain rfl : i = n := by omega
        have t4 : decide ((i : Int) < t.lv) = false := by have := HN.out; simp; omega
        go_wp2_with fail
        go_ret
        refine ⟨(fun e => by (rw [HC.out] at e; cases e)), fun l e => ?_, HWR.out⟩
        rw [HC.out] at e
        injection e with e
        subst e
        refine ⟨_, rfl, HVR.out, fun k hk => ?_⟩
        have h1 := HVN.out k hk
        have h2 := HW2.out.size
        omega

set_option maxHeartbeats 4000000 in
set_option maxRecDepth 100000 in
theorem rLeast_ok (w : World) (A : TA) (t : Tr) (ht : TreeAt w A t) (hmm : t.left.length ≤ 1000000) : Calls Try.prog 44 #[A.agg t] w (LnPost w (lsL t)) := by
  have HB := Lib.hid (TBox.new w A t)
  have HW := Lib.hid (bel_alloc w (.cells #[.int .i64 t.lv, .slice A.l.o t.left.length A.l.c, .slice A.r.o t.right.length A.r.c, .slice A.p.o t.par.length A.p.c, .slice A.h.o t.hgt.length A.h.c, .slice A.s.o t.siz.length A.s.c] 27))
  have HT2 := Lib.hid (ht.below HW.out)
  have c0 := HB.out.c0
  have c1 := HB.out.c1
  have c2 := HB.out.c2
  have c3 := HB.out.c3
  have c4 := HB.out.c4
  have c5 := HB.out.c5
  clear ht
  show Calls _ _ #[.agg #[.int .i64 t.lv, .slice A.l.o t.left.length A.l.c, .slice A.r.o t.right.length A.r.c, .slice A.p.o t.par.length A.p.c, .slice A.h.o t.hgt.length A.h.c, .slice A.s.o t.siz.length A.s.c]] _ _
  go_enter Try.func44, Try.ntmps44
  go_wp2_with fail
  with_reducible refine (rvalid_ok _ A t HT2.out hmm).mono ?_
  rintro e w2 ⟨rfl, hb⟩
  have HW2 := Lib.hid (bel_then HW.out hb)
  have HB2 := Lib.hid (Blk.below HB.out hb (Blk.lt HB.out))
  have HT3 := Lib.hid (HT2.out.below hb)
  clear hb c0 c1 c2 c3 c4 c5 HB HW HT2
  cases hl : lsL t with
  | none =>
    have hv := okV_none hl
    rw [hv]
    have HC := Lib.hid (id hl)
    clear hl hv
    go_wp2_with fail
    go_ret
    exact ⟨fun _ => rfl, (fun l e => by (rw [HC.out] at e; cases e)), HW2.out⟩
  | some ls =>
    have hv := okV_some hl
    rw [hv]
    clear hv
    obtain ⟨n, hn, hv⟩ := tv_of hl
    have HV := Lib.hid hv
    have HN := Lib.hid hn
    have hn4 := hv.hn
    have hnm := hv.nm
    have hm2 := hv.two
    have HLL := Lib.hid hv.lsl
    have HLQ := Lib.hid hv.ll
    have HRQ := Lib.hid hv.rl
    have HC := Lib.hid hl
    clear hl hv hn
    go_wp2_with fail
    go_loopw [3, 4] (fun v s wr => ∃ i : Nat, i ≤ t.left.length ∧ s = .int .i64 i ∧ wr.ownsRow 0 3 1 v (ls.take i).length (natV (ls.take i)) ∧ (∀ x, v.ownBlock = some x → w2.heap.size ≤ x) ∧ Below w2.heap.size w2 wr) (fun _ s _ => t.left.length - (intOf s).toNat)
    case atStart => exact ⟨0, Nat.zero_le _, rfl, World.ownsRow_nil _ _ _ _, fun x hx => (by cases hx), Below.refl _ _⟩
    case round =>
      obtain ⟨i, hi, rfl, hv, hvn, hb⟩ := hrel
      have HVR := Lib.hid hv
      have HVN := Lib.hid hvn
      have HBR := Lib.hid hb
      have HTR := Lib.hid (HT3.out.below hb)
      have HXR := Lib.hid (Blk.below HB2.out hb (Blk.lt HB2.out))
      have HWR := Lib.hid (bel_then HW2.out hb)
      have c0 := TBox.c0 HXR.out
      have c1 := TBox.c1 HXR.out
      have c2 := TBox.c2 HXR.out
      have c3 := TBox.c3 HXR.out
      have c4 := TBox.c4 HXR.out
      have c5 := TBox.c5 HXR.out
      clear hv hvn hb
      by_cases hin : i < t.left.length
      · have him : i < t.par.length := by have := HLQ.out; omega
        have t4 : (i : Int) < (t.left.length : Int) := by omega
        have HTT0 := Lib.hid (take_next (l := ls) (i := i) (by have := HLL.out; omega))
        have htl : (ls.take i).length ≤ i := List.length_take_le _ _
        have HLOW := Lib.hid (low_of HV.out i him)
        generalize ls.getD i 0 = a at *
        generalize hT : ls.take i = T at *
        generalize hT' : ls.take (i + 1) = T' at *
        have HT' := Lib.hid hT'
        clear hT hT'
        have HTT : Hid (T' = T ++ [a]) := HTT0.out
        go_wp2_with fail
        with_reducible refine (rleast_ok A t n HN.out HLQ.out HRQ.out i a HLOW.out wr HTR.out).mono ?_
        rintro e w5 ⟨rfl, hb5⟩
        have HB5 := Lib.hid hb5
        clear hb5 c0 c1 c2 c3 c4 c5
        have HOW := Lib.hid ((owns_mod HVR.out (Mod.of_below (F := fun _ => False) HB5.out) (fun _ _ h => h)).alloc (.cells #[.int .i64 a] 3))
        have HNW := Lib.hid (news_new w5 3 [.int .i64 a])
        go_wp2_with (at_builtin; apply keepIt)
        apply Lib.hid
        refine wpList_appendB 3 (.int .i64 0) 1 8 Try.underlying24 Try.infoInt rfl (by decide) _ T.length _ rfl HOW.out ⟨w5.heap.size, 0, none⟩ 1 1 [.int .i64 a] rfl rfl HNW.out (by simp [Value.oneCell']) (by unfold maxLen; omega) (by omega) ?_
        intro v6 w6 ho6 hg6 hn6
        have hwr := HBR.out.size
        have hwy := (HB5.out).size
        have HB6 : Hid (Below w2.heap.size w2 w6) := ((bel_then HBR.out HB5.out).alloc (by omega) _).trans (grown_below hg6 (fun k hk => HVN.out k hk) (by simp; omega))
        have HV6 : Hid (w6.ownsRow 0 3 1 v6 T'.length (natV T')) := by
          show World.ownsRow _ _ _ _ _ _ _
          rw [HTT.out, List.length_append]
          have e : natV (T ++ [a]) = natV T ++ [.int .i64 (a : Int)] := by simp [natV]
          rw [e]
          exact ho6
        have HN6 : Hid (∀ x, v6.ownBlock = some x → w2.heap.size ≤ x) := fun x hx => by
          rcases hn6 x hx with e | e
          · exact HVN.out x e
          · have hz : w5.heap.size ≤ (w5.alloc (.cells #[.int .i64 a] 3)).heap.size := by simp
            exact Nat.le_trans hwr (Nat.le_trans hwy (Nat.le_trans hz e))
        clear ho6 hg6 hn6
        go_wp2_with fail
        go_roundw
        case rel => exact ⟨i + 1, by omega, by go_num, by rw [HT'.out]; exact HV6.out, HN6.out, HB6.out⟩
        case measure => simp [intOf]; omega
      · obtain rfl : t.left.length = i := by omega
        have t4 : ¬ (t.left.length : Int) < (t.left.length : Int) := by omega
        go_wp2_with fail
        go_ret
        refine ⟨(fun e => by (rw [HC.out] at e; cases e)), fun l e => ?_, HWR.out⟩
        rw [HC.out] at e
        injection e with e
        subst e
        refine ⟨_, rfl, by have := HVR.out; rw [List.take_of_length_le (by have := HLL.out; have := HLQ.out; omega)] at this; exact this, fun k hk => ?_⟩
        have h1 := HVN.out k hk
        have h2 := HW2.out.size
        omega

set_option maxHeartbeats 4000000 in
set_option maxRecDepth 100000 in
theorem rtop_ok (w : World) (A : TA) (t : Tr) (ht : TreeAt w A t) (hmm : t.left.length ≤ 1000000) (leaf th : Int) : Calls Try.prog 45 #[A.agg t, .int .i64 leaf, .int .i64 th] w (RetB (.tuple #[.int .i64 (topV t leaf th).1, .int .i64 (topV t leaf th).2]) w) := by
  have HB := Lib.hid (TBox.new w A t)
  have HW := Lib.hid (bel_alloc w (.cells #[.int .i64 t.lv, .slice A.l.o t.left.length A.l.c, .slice A.r.o t.right.length A.r.c, .slice A.p.o t.par.length A.p.c, .slice A.h.o t.hgt.length A.h.c, .slice A.s.o t.siz.length A.s.c] 27))
  have HT2 := Lib.hid (ht.below HW.out)
  have c0 := HB.out.c0
  have c1 := HB.out.c1
  have c2 := HB.out.c2
  have c3 := HB.out.c3
  have c4 := HB.out.c4
  have c5 := HB.out.c5
  clear ht
  show Calls _ _ #[.agg #[.int .i64 t.lv, .slice A.l.o t.left.length A.l.c, .slice A.r.o t.right.length A.r.c, .slice A.p.o t.par.length A.p.c, .slice A.h.o t.hgt.length A.h.c, .slice A.s.o t.siz.length A.s.c], _, _] _ _
  go_enter Try.func45, Try.ntmps45
  go_wp2_with fail
  with_reducible refine (rvalid_ok _ A t HT2.out hmm).mono ?_
  rintro e w2 ⟨rfl, hb⟩
  have HW2 := Lib.hid (bel_then HW.out hb)
  have HB2 := Lib.hid (Blk.below HB.out hb (Blk.lt HB.out))
  have HT3 := Lib.hid (HT2.out.below hb)
  clear hb c0 c1 c2 c3 c4 c5 HB HW HT2
  cases hl : lsL t with
  | none =>
    have hv := okV_none hl
    rw [hv]
    have HC : Hid (topV t leaf th = (0, 2)) := if_pos hl
    clear hl hv
    go_wp2_with fail
    go_ret2
    rw [HC.out]
    exact ⟨rfl, HW2.out⟩
  | some ls =>
    have hv := okV_some hl
    rw [hv]
    clear hv
    obtain ⟨n, hn, hv⟩ := tv_of hl
    have HV := Lib.hid hv
    have HN := Lib.hid hn
    have hn4 := hv.hn
    have hnm := hv.nm
    have hm2 := hv.two
    have HLL := Lib.hid hv.lsl
    have HLQ := Lib.hid hv.ll
    have HRQ := Lib.hid hv.rl
    have HTV : Hid (topV t leaf th = if leaf < 0 ∨ t.lv ≤ leaf then (0, 3) else (((ab t t.par.length th leaf.toNat : Nat) : Int), 0)) := if_neg (by rw [hl]; exact nofun)
    have b0 := TBox.c0 HB2.out
    have b1 := TBox.c1 HB2.out
    have b2 := TBox.c2 HB2.out
    have b3 := TBox.c3 HB2.out
    have b4 := TBox.c4 HB2.out
    have b5 := TBox.c5 HB2.out
    by_cases h1 : leaf < 0
    · have t1 : decide (leaf < 0) = true := by simp [h1]
      have HC : Hid (topV t leaf th = (0, 3)) := HTV.out.trans (if_pos (.inl h1))
      clear hl hv hn h1
      go_wp2_with fail
      go_ret2
      rw [HC.out]
      exact ⟨rfl, HW2.out⟩
    have t1 : decide (leaf < 0) = false := by simp; omega
    by_cases h2 : t.lv ≤ leaf
    · have t2 : decide (t.lv ≤ leaf) = true := by simp [h2]
      have HC : Hid (topV t leaf th = (0, 3)) := HTV.out.trans (if_pos (.inr h2))
      clear hl hv hn h1 h2
      go_wp2_with fail
      go_ret2
      rw [HC.out]
      exact ⟨rfl, HW2.out⟩
    have t2 : decide (t.lv ≤ leaf) = false := by simp; omega
    obtain ⟨v, rfl⟩ := Int.eq_ofNat_of_zero_le (show 0 ≤ leaf by omega)
    have hvp : v < t.par.length := by omega
    have HC : Hid (topV t v th = (((ab t t.par.length th v : Nat) : Int), 0)) := HTV.out.trans (if_neg (fun h => by rcases h with h | h <;> omega))
    have hb3 := rabove_ok w2 A t HT3.out HV.out v hvp th
    have HB3 := Lib.hid hb3
    clear hl hv hn h1 h2 hb3 t1
    go_wp2_with fail
    with_reducible refine HB3.out.mono ?_
    rintro e w3 ⟨rfl, hb⟩
    have HW3 := Lib.hid (bel_then HW2.out hb)
    clear hb b0 b1 b2 b3 b4 b5
    go_wp2_with fail
    go_ret2
    rw [HC.out]
    exact ⟨rfl, HW3.out⟩

set_option maxHeartbeats 4000000 in
set_option maxRecDepth 100000 in
theorem rlabels_ok (w : World) (A : TA) (t : Tr) (ht : TreeAt w A t) (hmm : t.left.length ≤ 1000000) (th : Int) : Calls Try.prog 46 #[A.agg t, .int .i64 th] w (LbPost w t th) := by
  have HB := Lib.hid (TBox.new w A t)
  have HW := Lib.hid (bel_alloc w (.cells #[.int .i64 t.lv, .slice A.l.o t.left.length A.l.c, .slice A.r.o t.right.length A.r.c, .slice A.p.o t.par.length A.p.c, .slice A.h.o t.hgt.length A.h.c, .slice A.s.o t.siz.length A.s.c] 27))
  have HT2 := Lib.hid (ht.below HW.out)
  have c0 := HB.out.c0
  have c1 := HB.out.c1
  have c2 := HB.out.c2
  have c3 := HB.out.c3
  have c4 := HB.out.c4
  have c5 := HB.out.c5
  clear ht
  show Calls _ _ #[.agg #[.int .i64 t.lv, .slice A.l.o t.left.length A.l.c, .slice A.r.o t.right.length A.r.c, .slice A.p.o t.par.length A.p.c, .slice A.h.o t.hgt.length A.h.c, .slice A.s.o t.siz.length A.s.c], _] _ _
  go_enter Try.func46, Try.ntmps46
  go_wp2_with fail
  with_reducible refine (rvalid_ok _ A t HT2.out hmm).mono ?_
  rintro e w2 ⟨rfl, hb⟩
  have HW2 := Lib.hid (bel_then HW.out hb)
  have HB2 := Lib.hid (Blk.below HB.out hb (Blk.lt HB.out))
  have HT3 := Lib.hid (HT2.out.below hb)
  clear hb c0 c1 c2 c3 c4 c5 HB HW HT2
  cases hl : lsL t with
  | none =>
    have hv := okV_none hl
    rw [hv]
    have HC := Lib.hid (labsO_none (th := th) hl)
    clear hl hv
    go_wp2_with fail
    go_ret2
    exact ⟨fun _ => rfl, (fun l e => by (rw [HC.out] at e; cases e)), HW2.out⟩
  | some ls =>
    have hv := okV_some hl
    rw [hv]
    clear hv
    obtain ⟨n, hn, hv⟩ := tv_of hl
    have HV := Lib.hid hv
    have HN := Lib.hid hn
    have hn4 := hv.hn
    have hnm := hv.nm
    have hm2 := hv.two
    have HLL := Lib.hid hv.lsl
    have HLQ := Lib.hid hv.ll
    have HRQ := Lib.hid hv.rl
    have HC : Hid (labsO t th = some (labelsL t n t.par.length ls th)) := by show _ = _; rw [labsO_some hl, hn, Int.toNat_natCast]
    clear hl hv hn
    go_wp2_with fail
    go_loopw [6, 7] (fun v s wr => ∃ i : Nat, i ≤ n ∧ s = .int .i64 i ∧ wr.ownsRow 0 3 1 v (lbsTo t t.par.length ls th i).length (natV (lbsTo t t.par.length ls th i)) ∧ (∀ x, v.ownBlock = some x → w2.heap.size ≤ x) ∧ Below w2.heap.size w2 wr) (fun _ s _ => n - (intOf s).toNat)
    case atStart => exact ⟨0, Nat.zero_le _, rfl, World.ownsRow_nil _ _ _ _, fun x hx => (by cases hx), Below.refl _ _⟩
    case round =>
      obtain ⟨i, hi, rfl, hv, hvn, hb⟩ := hrel
      have HVR := Lib.hid hv
      have HVN := Lib.hid hvn
      have HBR := Lib.hid hb
      have HTR := Lib.hid (HT3.out.below hb)
      have HXR := Lib.hid (Blk.below HB2.out hb (Blk.lt HB2.out))
      have HWR := Lib.hid (bel_then HW2.out hb)
      have c0 := TBox.c0 HXR.out
      have c1 := TBox.c1 HXR.out
      have c2 := TBox.c2 HXR.out
      have c3 := TBox.c3 HXR.out
      have c4 := TBox.c4 HXR.out
      have c5 := TBox.c5 HXR.out
      clear hv hvn hb
      by_cases hin : i < n
      · have him : i < t.par.length := by omega
        have t4 : decide ((i : Int) < t.lv) = true := by have := HN.out; simp; omega
        have HS := Lib.hid (lbsTo_succ t t.par.length ls th i)
        have htl := lbsTo_len t t.par.length ls th i
        have HLOW := Lib.hid (low_of HV.out _ (ab_lt HV.out th i him).1)
        obtain ⟨r, HRR⟩ : ∃ r, Hid (ab t t.par.length th i = r) := ⟨_, rfl⟩
        rw [HRR.out] at HLOW HS
        generalize ls.getD r 0 = a at *
        generalize hT : lbsTo t t.par.length ls th i = T at *
        generalize hT' : lbsTo t t.par.length ls th (i + 1) = T' at *
        have HT' := Lib.hid hT'
        clear hT hT'
        have hTl : T.length ≤ 4096 := by omega
        have HTL := Lib.hid hTl
        clear htl hTl
        obtain ⟨vo, vc, rfl⟩ := owns_slice HVR.out
        go_upto_region 7 with fail
        have C0 := Lib.hid c0
        have C1 := Lib.hid c1
        have C2 := Lib.hid c2
        have C3 := Lib.hid c3
        have C4 := Lib.hid c4
        have C5 := Lib.hid c5
        have HNG : Hid (¬ (Value.slice vo T.length vc).ownBlock = some w.heap.size) := fun e => by have := HVN.out _ e; have := Blk.lt HB2.out; omega
        have HNA : Hid (∀ k, A.has t k → ¬ (Value.slice vo T.length vc).ownBlock = some k) := fun k hk e => by have := HVN.out _ e; have := HT3.out.lt hk; omega
        go_region_held3 (fun w' => w'.cell? ⟨w.heap.size, 0, none⟩ = some (.int .i64 t.lv) ∧ w'.cell? ⟨w.heap.size, 1, none⟩ = some (.slice A.l.o t.left.length A.l.c) ∧ w'.cell? ⟨w.heap.size, 2, none⟩ = some (.slice A.r.o t.right.length A.r.c) ∧ w'.cell? ⟨w.heap.size, 3, none⟩ = some (.slice A.p.o t.par.length A.p.c) ∧ w'.cell? ⟨w.heap.size, 4, none⟩ = some (.slice A.h.o t.hgt.length A.h.c) ∧ w'.cell? ⟨w.heap.size, 5, none⟩ = some (.slice A.s.o t.siz.length A.s.c) ∧ Mod (fun k => (Value.slice vo T.length vc).ownBlock = some k) wr w')
          (((try go_split_ands); refine eight_keepM C0 C1 C2 C3 C4 C5 HNG.out ?_; first | assumption | exact (Mod.refl _ _).drew | exact (Mod.drew (by assumption)) | exact Mod.alloc (by assumption) _))
          (first
            | (go_at_call 70; (try go_split_ands); have hbw := (by assumption : Mod (fun k => (Value.slice vo T.length vc).ownBlock = some k) wr _); have hcon := rabove_ok _ A t (HTR.out.mod hbw HNA.out) HV.out i him th; rw [HRR.out] at hcon; (with_reducible refine hcon.mono ?_); rintro e w4 ⟨rfl, hb4⟩; have hbX : Below wr.heap.size wr w4 := bel_then ((Below.refl wr.heap.size wr).drew) hb4; have hb5 := Mod.trans hbw (Mod.of_below (F := fun _ => False) hb4) (fun _ _ h => h.elim); clear hb4 hcon hbw)
            | (go_at_call 34; (try go_split_ands); have hbw := (by assumption : Mod (fun k => (Value.slice vo T.length vc).ownBlock = some k) wr _); (with_reducible refine (rleast_ok A t n HN.out HLQ.out HRQ.out r a HLOW.out _ (HTR.out.mod hbw HNA.out)).mono ?_); rintro e w5 ⟨rfl, hb6⟩; have hb7 := Mod.trans hbw (Mod.of_below (F := fun _ => False) hb6) (fun _ _ h => h.elim); have hbY : Below wr.heap.size wr w5 := bel_then hbX hb6; have HOW := Lib.hid ((owns_mod HVR.out (Mod.of_below (F := fun _ => False) hbY) (fun _ _ h => h)).alloc (.cells #[.int .i64 a] 3)); have HNW := Lib.hid (news_new w5 3 [.int .i64 a]); clear hb6 hbw)
            | ((try go_split_ands); have hbw := (by assumption : Mod (fun k => (Value.slice vo T.length vc).ownBlock = some k) wr w5); refine step_appB 3 (.int .i64 0) 1 8 Try.underlying24 Try.infoInt rfl (by decide) (.slice vo T.length vc) T.length (natV T) rfl HOW.out ⟨w5.heap.size, 0, none⟩ 1 1 [.int .i64 a] rfl rfl HNW.out (by simp [Value.oneCell']) (by have := HTL.out; unfold maxLen; omega) (by have := HTL.out; omega) ?_; intro v6 w6 ho6 hg6 hn6; have hm6 : Mod (fun k => (Value.slice vo T.length vc).ownBlock = some k) wr w6 := Mod.grown (Mod.alloc hbw _) hg6 (fun k e _ => e); have hout : AppAt wr (.slice vo T.length vc) (T.length + 1) (natV T ++ [.int .i64 a]) v6 w6 := ⟨ho6, hm6, fun k hk => (hn6 k hk).imp id (fun e => Nat.le_trans hbw.size (Nat.le_trans (Nat.le_succ _) (by simpa using e)))⟩; clear hg6 hn6 ho6 hbw))
        all_goals
          have HCUT := Lib.hid hout
          have HB6 : Hid (Below w2.heap.size w2 w6) := HBR.out.trans (HCUT.out.mod.below HBR.out.size (fun k hk => HVN.out k hk))
          have HV6 : Hid (w6.ownsRow 0 3 1 v6 T'.length (natV T')) := by
            show World.ownsRow _ _ _ _ _ _ _
            rw [HS.out, List.length_append]
            have e : natV (T ++ [a]) = natV T ++ [.int .i64 (a : Int)] := by simp [natV]
            rw [e]
            exact HCUT.out.own
          have HN6 : Hid (∀ x, v6.ownBlock = some x → w2.heap.size ≤ x) := fun x hx => by
            rcases HCUT.out.new x hx with e | e
            · exact HVN.out x e
            · have := HBR.out.size; omega
          clear hout
          go_wp2_with fail
          go_roundw
          case rel => exact ⟨i + 1, by omega, by go_num, by rw [HT'.out]; exact HV6.out, HN6.out, HB6.out⟩
          case measure => simp [intOf]; omega
      · obtain rfl : i = n := by omega
        have t4 : decide ((i : Int) < t.lv) = false := by have := HN.out; simp; omega
        go_wp2_with fail
        go_ret2
        refine ⟨(fun e => by (rw [HC.out] at e; cases e)), fun l e => ?_, HWR.out⟩
        rw [HC.out] at e
        injection e with e
        subst e
        refine ⟨_, rfl, HVR.out, fun k hk => ?_⟩
        have h1 := HVN.out k hk
        have h2 := HW2.out.size
        omega

end Go.Proofs.Ytenhbfbfkcjimaa
