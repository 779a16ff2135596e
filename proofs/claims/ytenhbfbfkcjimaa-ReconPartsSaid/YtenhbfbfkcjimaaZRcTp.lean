/- recon.Top, recon.Roots. -/
import Derived.Test.YtenhbfbfkcjimaaZRcDn
import Derived.Test.YtenhbfbfkcjimaaZRcQ
namespace Go.Proofs.Ytenhbfbfkcjimaa
set_option linter.unusedVariables false
set_option linter.unusedSimpArgs false
open Go.RowKit

/-- What Top returns. -/
def topV (t : Tr) (leaf th : Int) : Int × Int :=
  if lsL t = none then (0, 2) else if leaf < 0 ∨ t.lv ≤ leaf then (0, 3) else (((ab t t.par.length th leaf.toNat : Nat) : Int), 0)

theorem tv_of {t : Tr} {ls : List Nat} (h : lsL t = some ls) : ∃ n, t.lv = ((n : Nat) : Int) ∧ TV t n t.par.length ls := by
  obtain ⟨n, m, hv, _⟩ := TV.of_ls h
  obtain rfl : t.par.length = m := hv.pl
  exact ⟨n, hv.lv, hv⟩

set_option maxHeartbeats 4000000 in
set_option maxRecDepth 100000 in
theorem top_ok (w : World) (A : TA) (t : Tr) (ht : TreeAt w A t) (leaf th : Int) : Calls Try.prog 19 #[A.agg t, .int .i64 leaf, .int .i64 th] w (RetB (.tuple #[.int .i64 (topV t leaf th).1, .int .i64 (topV t leaf th).2]) w) := by
  have HT := Lib.hid ht
  have HB := Lib.hid (TBox.new w A t)
  have HW := Lib.hid (bel_alloc w (.cells #[.int .i64 t.lv, .slice A.l.o t.left.length A.l.c, .slice A.r.o t.right.length A.r.c, .slice A.p.o t.par.length A.p.c, .slice A.h.o t.hgt.length A.h.c, .slice A.s.o t.siz.length A.s.c] 27))
  have HT2 := Lib.hid (ht.below HW.out)
  have c0 := HB.out.c0
  have c1 := HB.out.c1
  have c2 := HB.out.c2
  have c3 := HB.out.c3
  have c4 := HB.out.c4
  have c5 := HB.out.c5
  clear ht
  show Calls _ _ #[.agg #[.int .i64 t.lv, .slice A.l.o t.left.length A.l.c, .slice A.r.o t.right.length A.r.c, .slice A.p.o t.par.length A.p.c, .slice A.h.o t.hgt.length A.h.c, .slice A.s.o t.siz.length A.s.c], _, _] _ _
  generalize hpo : A.p.o = po at *
  generalize hho : A.h.o = ho at *
  have HPO := Lib.hid hpo
  have HHO := Lib.hid hho
  clear hpo hho
  go_enter Try.func19, Try.ntmps19
  go_wp2_with fail
  have hcon := leasts_ok _ A t HT2.out
  rw [TA.agg, HPO.out, HHO.out] at hcon
  with_reducible refine hcon.mono ?_
  rintro e w2 ⟨hbad, hgood, hb⟩
  have HW2 := Lib.hid (bel_then HW.out hb)
  have HB2 := Lib.hid (Blk.below HB.out hb (Blk.lt HB.out))
  have HT3 := Lib.hid (HT2.out.below hb)
  clear hb hcon c0 c1 c2 c3 c4 c5
  cases hl : lsL t with
  | none =>
    obtain rfl := hbad hl
    have HC : Hid (topV t leaf th = (0, 2)) := if_pos hl
    clear hl hbad hgood
    go_wp2_with fail
    go_ret2
    rw [HC.out]
    exact ⟨rfl, HW2.out⟩
  | some ls =>
    obtain ⟨lb, rfl, _⟩ := hgood ls hl
    have HT : Hid (topV t leaf th = if leaf < 0 ∨ t.lv ≤ leaf then (0, 3) else (((ab t t.par.length th leaf.toNat : Nat) : Int), 0)) := if_neg (by rw [hl]; exact nofun)
    obtain ⟨n, hn, hv⟩ := tv_of hl
    have HV := Lib.hid hv
    have HN := Lib.hid hn
    have hnm := hv.nm
    have hn4 := hv.hn
    have hm2 := hv.two
    have b0 := TBox.c0 HB2.out
    rw [hn] at HT b0
    clear hl hbad hgood hv hn
    by_cases h1 : leaf < 0
    · have t1 : decide (leaf < 0) = true := by simp [h1]
      have HC : Hid (topV t leaf th = (0, 3)) := HT.out.trans (if_pos (.inl h1))
      clear h1
      go_wp2_with fail
      go_ret2
      rw [HC.out]
      exact ⟨rfl, HW2.out⟩
    by_cases h2 : (n : Int) ≤ leaf
    · have t1 : decide (leaf < 0) = false := by simp; omega
      have t2 : decide ((n : Int) ≤ leaf) = true := by simp [h2]
      have HC : Hid (topV t leaf th = (0, 3)) := HT.out.trans (if_pos (.inr h2))
      clear h1 h2
      go_wp2_with fail
      go_ret2
      rw [HC.out]
      exact ⟨rfl, HW2.out⟩
    obtain ⟨v, rfl⟩ := Int.eq_ofNat_of_zero_le (show 0 ≤ leaf by omega)
    have hvn : v < n := by omega
    have t2 : decide (n ≤ v) = false := by simp; omega
    have HC : Hid (topV t v th = (((ab t t.par.length th v : Nat) : Int), 0)) := HT.out.trans (if_neg (by omega))
    clear h1 h2 HT
    go_wp2_with fail
    clear b0 t2
    go_loopw [10] (fun s wr => ∃ x : Nat, x < t.par.length ∧ s = .int .i64 x ∧ ab t t.par.length th x = ab t t.par.length th v ∧ Mod (fun _ => False) w2 wr) (fun s _ => t.par.length - (intOf s).toNat)
    case atStart => exact ⟨v, by omega, rfl, rfl, Mod.refl _ _⟩
    case round =>
      obtain ⟨x, hx, rfl, hab, hm⟩ := hrel
      have HAB := Lib.hid hab
      have HM := Lib.hid hm
      have HB3 := Lib.hid (Blk.mod HB2.out hm id)
      have HT4 := Lib.hid (HT3.out.mod hm (fun _ _ h => h))
      clear hab hm
      have c3 := TBox.c3 HB3.out
      have c4 := TBox.c4 HB3.out
      obtain ⟨e1, p1⟩ := HT4.out.p.get (i := x) hx
      obtain ⟨e2, _⟩ := HT4.out.h.get (i := x) (by rw [HV.out.hl]; exact hx)
      rw [HPO.out] at c3 e1
      rw [HHO.out] at c4 e2
      subst e1 e2
      have t0 : (0 : Int) ≤ (x : Int) := by omega
      have t1 : (x : Int) < (t.par.length : Int) := by omega
      have HW3 := Lib.hid (bel_mod HW2.out HM.out (fun _ h => h.elim))
      rcases HV.out.par hx with e | ⟨p, e, h1, h2, h3, _⟩
      · have HF : Hid (topV t v th = (((x : Nat) : Int), 0)) := by
          show _ = _
          rw [HC.out, ← HAB.out, ab_root HV.out hx (by omega)]
        rw [e] at p1
        clear e
        go_wp2_with fail
        go_quiet (fail)
        go_wp2_with fail
        go_ret2
        rw [HF.out]
        exact ⟨rfl, bel_drewN HW3.out _⟩
      · have HA := Lib.hid (ab_par HV.out (th := th) hx e)
        rw [e] at p1
        clear e
        obtain ⟨_, l4⟩ := HT4.out.h.get (i := p) (by rw [HV.out.hl]; exact h3)
        have t3 : (0 : Int) ≤ (p : Int) := by omega
        have t4 : (p : Int) < (t.hgt.length : Int) := by rw [HV.out.hl]; omega
        generalize gi t.hgt p = hp at *
        by_cases hc : hp ≤ th
        · have HAB2 : Hid (ab t t.par.length th p = ab t t.par.length th v) := by show _ = _; rw [← HAB.out, HA.out, if_pos hc]
          have t5 : decide (hp ≤ th) = true := by simp [hc]
          clear hc
          go_wp2_with fail
          go_quiet (fail)
          go_wp2_with fail
          go_roundw
          case rel => exact ⟨p, h3, rfl, HAB2.out, HM.out.drewN _⟩
          case measure => simp only [intOf, Int.toNat_natCast]; omega
        · have HF : Hid (topV t v th = (((x : Nat) : Int), 0)) := by
            show _ = _
            rw [HC.out, ← HAB.out, HA.out, if_neg hc]
          have t5 : decide (hp ≤ th) = false := by simp; omega
          clear hc
          go_wp2_with fail
          go_quiet (fail)
          go_wp2_with fail
          go_ret2
          rw [HF.out]
          exact ⟨rfl, bel_drewN HW3.out _⟩

/-- The closure of Roots. -/
def lsC (ls : List Nat) (x y : Nat) : Int := cmpI ((ls.getD x 0 : Nat) : Int) ((ls.getD y 0 : Nat) : Int)

theorem lsC_neg (ls : List Nat) (x y : Nat) : lsC ls x y < 0 ↔ ls.getD x 0 < ls.getD y 0 := by
  unfold lsC cmpI
  by_cases h1 : ((ls.getD x 0 : Nat) : Int) < ((ls.getD y 0 : Nat) : Int)
  · rw [if_pos h1]; constructor
    · intro _; omega
    · intro _; decide
  · rw [if_neg h1]; split
    · constructor
      · intro h; omega
      · intro h; omega
    · constructor
      · intro h; omega
      · intro h; omega

set_option maxRecDepth 100000 in
set_option maxHeartbeats 1000000 in
theorem rootf_ok (w : World) (lp lb m : Nat) (hm : m ≤ 8192) (hc : w.cell? ⟨lp, 0, none⟩ = some (.slice (some ⟨lb, 0, none⟩) m m)) (ls : List Nat) (hb : Blk w lb 3 (natV ls)) (hl : ls.length = m) (x y : Nat) (hx : x < m) (hy : y < m) :
    Calls Try.prog 37 #[.int .i64 x, .int .i64 y, .pointer (some ⟨lp, 0, none⟩)] w (fun e w' => e = .returned (.int .i64 (lsC ls x y)) ∧ ∃ q os', w' = Go.Sort.grow (w.drewN q) os') := by
  have cx := blkN hb (i := x) (by omega)
  have cy := blkN hb (i := y) (by omega)
  have HO : Hid (cmpI ((ls.getD x 0 : Nat) : Int) ((ls.getD y 0 : Nat) : Int) = lsC ls x y) := rfl
  generalize ls.getD x 0 = a at *
  generalize ls.getD y 0 = b at *
  have HH : Hid (∃ q os', w.drew = Go.Sort.grow (w.drewN q) os') := ⟨1, #[], by simp [Go.Sort.grow]; rfl⟩
  have t1 : (x : Int) < (m : Int) := by omega
  have t2 : (y : Int) < (m : Int) := by omega
  have t3 : (0 : Int) ≤ (x : Int) := by omega
  have t4 : (0 : Int) ≤ (y : Int) := by omega
  clear hb hl
  go_enter Try.func37, Try.ntmps37
  go_wp2_with fail
  refine region_tail 9 (by kernel_rfl) (by kernel_rfl) ?_
  intro w2 hw2
  rw [← hw2] at HH
  have d0 : w2.cell? ⟨lp, 0, none⟩ = some (.slice (some ⟨lb, 0, none⟩) m m) := by rw [hw2]; exact hc
  have d1 : w2.cell? ⟨lb, x, none⟩ = some (.int .i64 a) := by rw [hw2]; exact cx
  have d2 : w2.cell? ⟨lb, y, none⟩ = some (.int .i64 b) := by rw [hw2]; exact cy
  clear hw2 hc cx cy
  simp only [List.take_succ_cons, List.take_zero, List.drop_succ_cons, List.drop_zero]
  repeat still_step
  still_call (Ret.still (comparei a b _))
  refine wpStill_nil ?_
  clear d0 d1 d2
  go_wp2_with fail
  go_ret
  exact ⟨ret_int HO.out, HH.out⟩

/-- The roots among the first i nodes. -/
def topsTo (t : Tr) (i : Nat) : List Nat := (List.range i).filter fun x => decide (gi t.par x < 0)
theorem topsTo_succ (t : Tr) (i : Nat) : topsTo t (i + 1) = if gi t.par i < 0 then topsTo t i ++ [i] else topsTo t i := by
  unfold topsTo
  rw [List.range_succ, List.filter_append]
  by_cases h : gi t.par i < 0
  · rw [if_pos h]; simp [h]
  · rw [if_neg h]; simp [h]
theorem topsTo_len (t : Tr) (i : Nat) : (topsTo t i).length ≤ i := by
  have := List.length_filter_le (fun x => decide (gi t.par x < 0)) (List.range i)
  rw [List.length_range] at this
  exact this

/-- What Roots returns. -/
def rootsO (t : Tr) : Option (List Nat) := match lsL t with | none => none | some ls => some (rootsL t t.lv.toNat t.par.length ls)
theorem rootsO_none {t : Tr} (h : lsL t = none) : rootsO t = none := by unfold rootsO; rw [h]
theorem rootsO_some {t : Tr} {ls : List Nat} (h : lsL t = some ls) : rootsO t = some (rootsL t t.lv.toNat t.par.length ls) := by unfold rootsO; rw [h]

set_option maxHeartbeats 4000000 in
set_option maxRecDepth 100000 in
theorem roots_ok (w : World) (A : TA) (t : Tr) (ht : TreeAt w A t) : Calls Try.prog 17 #[A.agg t] w (LnPost w (rootsO t)) := by
  have HT := Lib.hid ht
  have HB := Lib.hid (TBox.new w A t)
  have HW := Lib.hid (bel_alloc w (.cells #[.int .i64 t.lv, .slice A.l.o t.left.length A.l.c, .slice A.r.o t.right.length A.r.c, .slice A.p.o t.par.length A.p.c, .slice A.h.o t.hgt.length A.h.c, .slice A.s.o t.siz.length A.s.c] 27))
  have HT2 := Lib.hid (ht.below HW.out)
  have c0 := HB.out.c0
  have c1 := HB.out.c1
  have c2 := HB.out.c2
  have c3 := HB.out.c3
  have c4 := HB.out.c4
  have c5 := HB.out.c5
  clear ht
  show Calls _ _ #[.agg #[.int .i64 t.lv, .slice A.l.o t.left.length A.l.c, .slice A.r.o t.right.length A.r.c, .slice A.p.o t.par.length A.p.c, .slice A.h.o t.hgt.length A.h.c, .slice A.s.o t.siz.length A.s.c]] _ _
  generalize hpo : A.p.o = po at *
  have HPO := Lib.hid hpo
  clear hpo
  have eg : ∀ args w, (callFunc 37 args).run Try.prog w = .ok (.enter 37 args) w := enters_of Try.func37 (by kernel_rfl) rfl
  have HEG := Lib.hid eg
  clear eg
  go_enter Try.func17, Try.ntmps17
  go_wp2_with fail
  have hcon := leasts_ok _ A t HT2.out
  rw [TA.agg, HPO.out] at hcon
  with_reducible refine hcon.mono ?_
  rintro e w2 ⟨hbad, hgood, hb⟩
  have HW2 := Lib.hid (bel_then HW.out hb)
  have HB2 := Lib.hid (Blk.below HB.out hb (Blk.lt HB.out))
  have HT3 := Lib.hid (HT2.out.below hb)
  have HS := Lib.hid HW.out.size
  clear hb hcon c0 c1 c2 c3 c4 c5
  cases hl : lsL t with
  | none =>
    obtain rfl := hbad hl
    have HC := Lib.hid (rootsO_none hl)
    have HW3 := Lib.hid (HW2.out.alloc HW2.out.size (.cells #[.slice none 0 0] 24))
    clear hl hbad hgood
    go_wp2_with fail
    go_ret
    exact ⟨fun _ => rfl, (fun l e => by (rw [HC.out] at e; cases e)), HW3.out⟩
  | some ls =>
    obtain ⟨lb, rfl, hlb, hlbn⟩ := hgood ls hl
    obtain ⟨n, hn, hv⟩ := tv_of hl
    have HC : Hid (rootsO t = some (rootsL t n t.par.length ls)) := by show _ = _; rw [rootsO_some hl, hn, Int.toNat_natCast]
    have HV := Lib.hid hv
    have hn4 := hv.hn
    have hm2 := hv.two
    have HLL := Lib.hid hv.lsl
    have HLB := Lib.hid (hlb.alloc (.cells #[.slice (some ⟨lb, 0, none⟩) ls.length ls.length] 24))
    have HLP := Lib.hid (Blk.new w2 24 [.slice (some ⟨lb, 0, none⟩) ls.length ls.length])
    have HW3 := Lib.hid (HW2.out.alloc HW2.out.size (.cells #[.slice (some ⟨lb, 0, none⟩) ls.length ls.length] 24))
    have HB3 := Lib.hid (Blk.alloc HB2.out (.cells #[.slice (some ⟨lb, 0, none⟩) ls.length ls.length] 24))
    have HT4 := Lib.hid (HT3.out.below (bel_alloc w2 (.cells #[.slice (some ⟨lb, 0, none⟩) ls.length ls.length] 24)))
    have HLN := Lib.hid hlbn
    have b3 := TBox.c3 HB3.out
    rw [HPO.out] at b3
    clear hl hbad hgood hv hn hlb hlbn HB HB2 HT2 HT3
    go_wp2_with fail
    clear b3
    have hlp : w.heap.size ≤ w2.heap.size := HW2.out.size
    have hsz3 : w2.heap.size < (w2.alloc (.cells #[.slice (some ⟨lb, 0, none⟩) ls.length ls.length] 24)).heap.size := by simp
    have hlb3 := HLB.out.lt
    generalize w2.alloc (.cells #[.slice (some ⟨lb, 0, none⟩) ls.length ls.length] 24) = w3 at *
    generalize w2.heap.size = lp at *
    go_loopw [5, 18] (fun v s wr => ∃ i : Nat, i ≤ t.par.length ∧ s = .int .i64 i ∧ wr.ownsRow 0 3 1 v (topsTo t i).length (natV (topsTo t i)) ∧ (∀ x, v.ownBlock = some x → w3.heap.size ≤ x) ∧ Below w3.heap.size w3 wr) (fun _ s _ => t.par.length - (intOf s).toNat)
    case atStart => exact ⟨0, Nat.zero_le _, rfl, World.ownsRow_nil _ _ _ _, fun x hx => (by cases hx), Below.refl _ _⟩
    case round =>
      obtain ⟨i, hi, rfl, hv, hvn, hb⟩ := hrel
      have HVR := Lib.hid hv
      have HVN := Lib.hid hvn
      have HBR := Lib.hid hb
      have HT5 := Lib.hid (HT4.out.below hb)
      have HWR := Lib.hid (bel_then HW3.out hb)
      clear hv hvn hb
      by_cases him : i < t.par.length
      · obtain ⟨e1, p1⟩ := HT5.out.p.get (i := i) him
        rw [HPO.out] at e1
        subst e1
        have HTS := Lib.hid (topsTo_succ t i)
        have htl := topsTo_len t i
        generalize gi t.par i = p at *
        have t1 : (i : Int) < (t.par.length : Int) := by omega
        have t2 : (0 : Int) ≤ (i : Int) := by omega
        generalize hT : topsTo t i = T at *
        generalize hT' : topsTo t (i + 1) = T' at *
        have HT' := Lib.hid hT'
        clear hT hT'
        by_cases hp : p < 0
        · have t3 : decide (p < 0) = true := by simp [hp]
          have HTT : Hid (T' = T ++ [i]) := HTS.out.trans (if_pos hp)
          have HOW := Lib.hid (HVR.out.alloc (.cells #[.int .i64 i] 3))
          have HNW := Lib.hid (news_new wr 3 [.int .i64 i])
          clear hp
          go_wp2_with (at_builtin; apply keepIt)
          apply Lib.hid
          refine wpList_appendB 3 (.int .i64 0) 1 8 Try.underlying24 Try.infoInt rfl (by decide) _ T.length _ rfl HOW.out ⟨wr.heap.size, 0, none⟩ 1 1 [.int .i64 i] rfl rfl HNW.out (by simp [Value.oneCell']) (by unfold maxLen; omega) (by omega) ?_
          intro v6 w6 ho6 hg6 hn6
          have hwr := HBR.out.size
          have HB6 : Hid (Below w3.heap.size w3 w6) := (HBR.out.alloc (by omega) _).trans (grown_below hg6 (fun k hk => HVN.out k hk) (by simp; omega))
          have HV6 : Hid (w6.ownsRow 0 3 1 v6 T'.length (natV T')) := by
            show World.ownsRow _ _ _ _ _ _ _
            rw [HTT.out, List.length_append]
            have e : natV (T ++ [i]) = natV T ++ [.int .i64 (i : Int)] := by simp [natV]
            rw [e]
            exact ho6
          have HN6 : Hid (∀ x, v6.ownBlock = some x → w3.heap.size ≤ x) := fun x hx => by
            rcases hn6 x hx with e | e
            · exact HVN.out x e
            · simp at e; omega
          clear ho6 hg6 hn6
          go_wp2_with fail
          go_roundw
          case rel => exact ⟨i + 1, by omega, by go_num, by rw [HT'.out]; exact HV6.out, HN6.out, HB6.out⟩
          case measure => simp [intOf]; omega
        · have t3 : decide (p < 0) = false := by simp; omega
          have HTT : Hid (T' = T) := HTS.out.trans (if_neg hp)
          clear hp
          go_wp2_with fail
          go_roundw
          case rel => exact ⟨i + 1, by omega, by go_num, by rw [HT'.out, HTT.out]; exact HVR.out, HVN.out, HBR.out⟩
          case measure => simp [intOf]; omega
      · obtain rfl : i = t.par.length := by omega
        have hP := roots_perm HV.out
        have hlen := hP.length_eq
        have hTl := topsTo_len t t.par.length
        have hTT : topsTo t t.par.length = tops t t.par.length := rfl
        have HRP : Hid ((rootsL t n t.par.length ls).Perm (topsTo t t.par.length)) := hP
        have HRS := Lib.hid (roots_sorted HV.out)
        have hRl : (topsTo t t.par.length).length = (rootsL t n t.par.length ls).length := hlen.symm
        have HMEM : Hid (∀ x, x ∈ topsTo t t.par.length → x < t.par.length ∧ gi t.par x < 0) := fun x hx => by
          have := List.mem_filter.1 hx
          rw [List.mem_range, decide_eq_true_eq] at this
          exact this
        clear hP hlen hTT
        have HRL := Lib.hid hRl
        generalize rootsL t n t.par.length ls = RL at *
        generalize topsTo t t.par.length = T at *
        by_cases h0 : T.length = 0
        · obtain ⟨ao, cap, rfl⟩ := owns_slice HVR.out
          rw [h0]
          have HH0 : Hid (RL = []) := List.eq_nil_of_length_eq_zero (by omega)
          have HT0 : Hid (T = []) := List.eq_nil_of_length_eq_zero h0
          clear h0 hRl
          go_wp2_with fail
          with_reducible refine (sortN_none wr ao cap _).mono ?_
          rintro e w6 ⟨rfl, rfl⟩
          go_wp2_with fail
          go_ret
          refine ⟨(fun e => by (rw [HC.out] at e; cases e)), fun l e => ?_, HWR.out⟩
          rw [HC.out] at e
          injection e with e
          subst e
          have hv := HVR.out
          rw [HT0.out] at hv
          rw [HH0.out]
          refine ⟨.slice ao 0 cap, rfl, hv, fun k hk => ?_⟩
          have := HVN.out k (by cases ao with | none => cases hk | some a => simpa [Value.ownBlock] using hk)
          have := HW3.out.size
          omega
        · obtain ⟨g, cap, rfl, _, _, _, _, _⟩ := owns_form HVR.out (by omega)
          have hgn := HVN.out g rfl
          have HGN := Lib.hid hgn
          have HRN : Hid (∀ x, x ∈ T → rt t t.par.length (ls.getD x 0) = x) := fun x hx => by
            obtain ⟨h1, h2⟩ := HMEM.out x hx
            rw [rt_ls HV.out x h1, rt_root HV.out h1 h2]
          have hcon := (sortN_ok wr g T.length cap T HVR.out rfl (by omega) (by omega) (fun x y => ls.getD x 0 < ls.getD y 0) (fun a => Nat.lt_irrefl _) (fun _ _ _ => Nat.lt_trans)
            (fun x hx y hy h1 h2 => by
              have e : ls.getD x 0 = ls.getD y 0 := by omega
              rw [← HRN.out x hx, ← HRN.out y hy, e])
            (lsC ls) (fun x _ y _ => lsC_neg ls x y) 37 #[.pointer (some ⟨lp, 0, none⟩)] HEG.out
            (fun W hW x hx y hy => rootf_ok W lp lb ls.length (by have := HLL.out; omega) (((HLP.out.below HBR.out (by omega)).mod hW (fun e => by have := HGN.out; omega)).cell (i := 0) rfl) ls ((HLB.out.below HBR.out (by omega)).mod hW (fun e => by have := HGN.out; omega)) rfl x y
              (by have := (HMEM.out x hx).1; have := HLL.out; omega) (by have := (HMEM.out y hy).1; have := HLL.out; omega))
            RL HRP.out HRS.out)
          clear h0 hRl hgn
          go_wp2_with fail
          with_reducible refine hcon.mono ?_
          rintro e w6 ⟨rfl, ho6, hm6⟩
          have HO6 := Lib.hid ho6
          have HW6 := Lib.hid (bel_mod HWR.out hm6 (fun x e => by have := HGN.out; have := HW3.out.size; omega))
          clear ho6 hm6 hcon
          go_wp2_with fail
          go_ret
          refine ⟨(fun e => by (rw [HC.out] at e; cases e)), fun l e => ?_, HW6.out⟩
          rw [HC.out] at e
          injection e with e
          subst e
          have hv := HO6.out
          rw [HRL.out] at hv
          rw [HRL.out]
          refine ⟨.slice (some ⟨g, 0, none⟩) RL.length cap, rfl, hv, fun k hk => ?_⟩
          have := HVN.out k (by simpa [Value.ownBlock] using hk)
          have := HW3.out.size
          omega

end Go.Proofs.Ytenhbfbfkcjimaa
