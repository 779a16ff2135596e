/- RcDn, RcTp, RcRf, RcRk, RcLv, RcLw. -/
import Derived.Test.YthacjealoomioaaGreatDoorZGe
import Derived.Test.YthacjealoomioaaGreatDoorZGa
import Derived.Test.YthacjealoomioaaGreatDoorZGf
import Derived.Test.YthacjealoomioaaGreatDoorZGg
import Derived.Test.YthacjealoomioaaGreatDoorZGb
import Derived.Test.YthacjealoomioaaGreatDoorZGd
/- recon.down: the nodes from the last one on. recon.Check, recon.Least. -/
namespace Go.Proofs.YthacjealoomioaaGreatDoor
set_option linter.unusedVariables false
set_option linter.unusedSimpArgs false
open Go.RowKit Go.Shelf
attribute [local go_sem] Oper.semAt_some

/-- What Check returns. -/
def chk (t : Tr) : Int := match lsL t with | none => 2 | some _ => 0
theorem chk_none {t : Tr} (h : lsL t = none) : chk t = 2 := by unfold chk; rw [h]
theorem chk_some {t : Tr} {ls : List Nat} (h : lsL t = some ls) : chk t = 0 := by unfold chk; rw [h]

set_option maxHeartbeats 1000000 in
set_option maxRecDepth 100000 in
theorem check_ok (w : World) (A : TA) (t : Tr) (ht : TreeAt w A t) : Calls Tryz.prog 26 #[A.agg t] w (RetB (.int .i64 (chk t)) w) := by
  have HT := Lib.hid ht
  have HB := Lib.hid (TBox.new w A t)
  have HW := Lib.hid (bel_alloc w (.cells #[.int .i64 t.lv, .slice A.l.o t.left.length A.l.c, .slice A.r.o t.right.length A.r.c, .slice A.p.o t.par.length A.p.c, .slice A.h.o t.hgt.length A.h.c, .slice A.s.o t.siz.length A.s.c] 27))
  have HT2 := Lib.hid (ht.below HW.out)
  have c0 := HB.out.c0
  have c1 := HB.out.c1
  have c2 := HB.out.c2
  have c3 := HB.out.c3
  have c4 := HB.out.c4
  have c5 := HB.out.c5
  clear ht
  show Calls _ _ #[.agg #[.int .i64 t.lv, .slice A.l.o t.left.length A.l.c, .slice A.r.o t.right.length A.r.c, .slice A.p.o t.par.length A.p.c, .slice A.h.o t.hgt.length A.h.c, .slice A.s.o t.siz.length A.s.c]] _ _
  go_enter Tryz.func26, Tryz.ntmps26
  go_wp2_with fail
  with_reducible refine (leasts_ok _ A t HT2.out).mono ?_
  rintro e w2 ⟨hbad, hgood, hb⟩
  have HW2 := Lib.hid (bel_then HW.out hb)
  clear hb
  cases hl : lsL t with
  | none =>
    obtain rfl := hbad hl
    have HC := Lib.hid (chk_none hl)
    clear hl hbad hgood
    go_wp2_with fail
    go_ret
    exact ⟨ret_int HC.out.symm, HW2.out⟩
  | some ls =>
    obtain ⟨lb, rfl, _⟩ := hgood ls hl
    have HC := Lib.hid (chk_some hl)
    clear hl hbad hgood
    go_wp2_with fail
    go_ret
    exact ⟨ret_int HC.out.symm, HW2.out⟩

/-- A list that is returned: new, or nil. -/
structure LnPost (w : World) (o : Option (List Nat)) (e : Ending) (w' : World) : Prop where
  bad : o = none → e = .returned (.slice none 0 0)
  ok : ∀ l, o = some l → ∃ v, e = .returned v ∧ w'.ownsRow 0 3 1 v l.length (natV l) ∧ ∀ k, v.ownBlock = some k → w.heap.size ≤ k
  bel : Below w.heap.size w w'

theorem owns_blk2 {w : World} {b : Nat} {T : TypeId} {l : List Nat} (h : Blk w b T (natV l)) (hl : l.length ≤ 1000000) : w.ownsRow 0 T 1 (.slice (some ⟨b, 0, none⟩) l.length l.length) l.length (natV l) := by
  have := owns_blk h (by rw [natV_len]; omega)
  rw [natV_len] at this
  exact this

theorem ls_le {t : Tr} {ls : List Nat} (h : lsL t = some ls) : ls.length = t.par.length ∧ ls.length ≤ 8192 := by
  obtain ⟨⟨⟨h1, h2, h3, h4⟩, _⟩, e, _⟩ := lsL_iff.1 h
  rw [e, lowF_len]
  exact ⟨rfl, by omega⟩

set_option maxHeartbeats 1000000 in
set_option maxRecDepth 100000 in
theorem least_ok (w : World) (A : TA) (t : Tr) (ht : TreeAt w A t) : Calls Tryz.prog 55 #[A.agg t] w (LnPost w (lsL t)) := by
  have HT := Lib.hid ht
  have HB := Lib.hid (TBox.new w A t)
  have HW := Lib.hid (bel_alloc w (.cells #[.int .i64 t.lv, .slice A.l.o t.left.length A.l.c, .slice A.r.o t.right.length A.r.c, .slice A.p.o t.par.length A.p.c, .slice A.h.o t.hgt.length A.h.c, .slice A.s.o t.siz.length A.s.c] 27))
  have HT2 := Lib.hid (ht.below HW.out)
  have c0 := HB.out.c0
  have c1 := HB.out.c1
  have c2 := HB.out.c2
  have c3 := HB.out.c3
  have c4 := HB.out.c4
  have c5 := HB.out.c5
  clear ht
  show Calls _ _ #[.agg #[.int .i64 t.lv, .slice A.l.o t.left.length A.l.c, .slice A.r.o t.right.length A.r.c, .slice A.p.o t.par.length A.p.c, .slice A.h.o t.hgt.length A.h.c, .slice A.s.o t.siz.length A.s.c]] _ _
  go_enter Tryz.func55, Tryz.ntmps55
  go_wp2_with fail
  with_reducible refine (leasts_ok _ A t HT2.out).mono ?_
  rintro e w2 ⟨hbad, hgood, hb⟩
  have HS := Lib.hid HW.out.size
  have HW2 := Lib.hid (bel_then HW.out hb)
  clear hb
  cases hl : lsL t with
  | none =>
    obtain rfl := hbad hl
    have HL0 := Lib.hid hl
    clear hl hbad hgood
    go_wp2_with fail
    go_ret
    exact ⟨fun _ => rfl, (fun l e => by (rw [HL0.out] at e; cases e)), HW2.out⟩
  | some ls =>
    obtain ⟨lb, rfl, hb, hn⟩ := hgood ls hl
    have HBK := Lib.hid hb
    have HL := Lib.hid (ls_le hl)
    have HL0 := Lib.hid hl
    have HN := Lib.hid hn
    clear hl hbad hgood hb hn
    go_wp2_with fail
    go_ret
    refine ⟨(fun e => by (rw [HL0.out] at e; cases e)), fun l e => ?_, HW2.out⟩
    rw [HL0.out] at e
    injection e with e
    subst e
    refine ⟨.slice (some ⟨lb, 0, none⟩) ls.length ls.length, rfl, owns_blk2 HBK.out (by have := HL.out; omega), fun k hk => ?_⟩
    have e : lb = k := by simpa [Value.ownBlock] using hk
    have h1 := HN.out
    have h2 := HS.out
    omega

end Go.Proofs.YthacjealoomioaaGreatDoor

/- recon.Top, recon.Roots. -/
namespace Go.Proofs.YthacjealoomioaaGreatDoor
set_option linter.unusedVariables false
set_option linter.unusedSimpArgs false
open Go.RowKit

theorem tv_of {t : Tr} {ls : List Nat} (h : lsL t = some ls) : ∃ n, t.lv = ((n : Nat) : Int) ∧ TV t n t.par.length ls := by
  obtain ⟨n, m, hv, _⟩ := TV.of_ls h
  obtain rfl : t.par.length = m := hv.pl
  exact ⟨n, hv.lv, hv⟩

/-- The closure of Roots. -/
def lsC (ls : List Nat) (x y : Nat) : Int := cmpI ((ls.getD x 0 : Nat) : Int) ((ls.getD y 0 : Nat) : Int)

theorem lsC_neg (ls : List Nat) (x y : Nat) : lsC ls x y < 0 ↔ ls.getD x 0 < ls.getD y 0 := by
  unfold lsC cmpI
  by_cases h1 : ((ls.getD x 0 : Nat) : Int) < ((ls.getD y 0 : Nat) : Int)
  · rw [if_pos h1]; constructor
    · intro _; omega
    · intro _; decide
  · rw [if_neg h1]; split
    · constructor
      · intro h; omega
      · intro h; omega
    · constructor
      · intro h; omega
      · intro h; omega

set_option maxRecDepth 100000 in
set_option maxHeartbeats 1000000 in
theorem rootf_ok (w : World) (lp lb m : Nat) (hm : m ≤ 8192) (hc : w.cell? ⟨lp, 0, none⟩ = some (.slice (some ⟨lb, 0, none⟩) m m)) (ls : List Nat) (hb : Blk w lb 3 (natV ls)) (hl : ls.length = m) (x y : Nat) (hx : x < m) (hy : y < m) :
    Calls Tryz.prog 88 #[.int .i64 x, .int .i64 y, .pointer (some ⟨lp, 0, none⟩)] w (fun e w' => e = .returned (.int .i64 (lsC ls x y)) ∧ ∃ q os', w' = Go.Sort.grow (w.drewN q) os') := by
  have cx := blkN hb (i := x) (by omega)
  have cy := blkN hb (i := y) (by omega)
  have HO : Hid (cmpI ((ls.getD x 0 : Nat) : Int) ((ls.getD y 0 : Nat) : Int) = lsC ls x y) := rfl
  generalize ls.getD x 0 = a at *
  generalize ls.getD y 0 = b at *
  have HH : Hid (∃ q os', w.drew = Go.Sort.grow (w.drewN q) os') := ⟨1, #[], by simp [Go.Sort.grow]; rfl⟩
  have t1 : (x : Int) < (m : Int) := by omega
  have t2 : (y : Int) < (m : Int) := by omega
  have t3 : (0 : Int) ≤ (x : Int) := by omega
  have t4 : (0 : Int) ≤ (y : Int) := by omega
  clear hb hl
  go_enter Tryz.func88, Tryz.ntmps88
  go_wp2_with fail
  refine region_tail 9 (by kernel_rfl) (by kernel_rfl) ?_
  intro w2 hw2
  rw [← hw2] at HH
  have d0 : w2.cell? ⟨lp, 0, none⟩ = some (.slice (some ⟨lb, 0, none⟩) m m) := by rw [hw2]; exact hc
  have d1 : w2.cell? ⟨lb, x, none⟩ = some (.int .i64 a) := by rw [hw2]; exact cx
  have d2 : w2.cell? ⟨lb, y, none⟩ = some (.int .i64 b) := by rw [hw2]; exact cy
  clear hw2 hc cx cy
  simp only [List.take_succ_cons, List.take_zero, List.drop_succ_cons, List.drop_zero]
  repeat still_step
  still_call (Ret.still (comparei a b _))
  refine wpStill_nil ?_
  clear d0 d1 d2
  go_wp2_with fail
  go_ret
  exact ⟨ret_int HO.out, HH.out⟩

/-- The roots among the first i nodes. -/
def topsTo (t : Tr) (i : Nat) : List Nat := (List.range i).filter fun x => decide (gi t.par x < 0)
theorem topsTo_succ (t : Tr) (i : Nat) : topsTo t (i + 1) = if gi t.par i < 0 then topsTo t i ++ [i] else topsTo t i := by
  unfold topsTo
  rw [List.range_succ, List.filter_append]
  by_cases h : gi t.par i < 0
  · rw [if_pos h]; simp [h]
  · rw [if_neg h]; simp [h]
theorem topsTo_len (t : Tr) (i : Nat) : (topsTo t i).length ≤ i := by
  have := List.length_filter_le (fun x => decide (gi t.par x < 0)) (List.range i)
  rw [List.length_range] at this
  exact this

/-- What Roots returns. -/
def rootsO (t : Tr) : Option (List Nat) := match lsL t with | none => none | some ls => some (rootsL t t.lv.toNat t.par.length ls)
theorem rootsO_none {t : Tr} (h : lsL t = none) : rootsO t = none := by unfold rootsO; rw [h]
theorem rootsO_some {t : Tr} {ls : List Nat} (h : lsL t = some ls) : rootsO t = some (rootsL t t.lv.toNat t.par.length ls) := by unfold rootsO; rw [h]

set_option maxHeartbeats 4000000 in
set_option maxRecDepth 100000 in
theorem roots_ok (w : World) (A : TA) (t : Tr) (ht : TreeAt w A t) : Calls Tryz.prog 58 #[A.agg t] w (LnPost w (rootsO t)) := by
  have HT := Lib.hid ht
  have HB := Lib.hid (TBox.new w A t)
  have HW := Lib.hid (bel_alloc w (.cells #[.int .i64 t.lv, .slice A.l.o t.left.length A.l.c, .slice A.r.o t.right.length A.r.c, .slice A.p.o t.par.length A.p.c, .slice A.h.o t.hgt.length A.h.c, .slice A.s.o t.siz.length A.s.c] 27))
  have HT2 := Lib.hid (ht.below HW.out)
  have c0 := HB.out.c0
  have c1 := HB.out.c1
  have c2 := HB.out.c2
  have c3 := HB.out.c3
  have c4 := HB.out.c4
  have c5 := HB.out.c5
  clear ht
  show Calls _ _ #[.agg #[.int .i64 t.lv, .slice A.l.o t.left.length A.l.c, .slice A.r.o t.right.length A.r.c, .slice A.p.o t.par.length A.p.c, .slice A.h.o t.hgt.length A.h.c, .slice A.s.o t.siz.length A.s.c]] _ _
  generalize hpo : A.p.o = po at *
  have HPO := Lib.hid hpo
  clear hpo
  have eg : ∀ args w, (callFunc 88 args).run Tryz.prog w = .ok (.enter 88 args) w := enters_of Tryz.func88 (by kernel_rfl) rfl
  have HEG := Lib.hid eg
  clear eg
  go_enter Tryz.func58, Tryz.ntmps58
  go_wp2_with fail
  have hcon := leasts_ok _ A t HT2.out
  rw [TA.agg, HPO.out] at hcon
  with_reducible refine hcon.mono ?_
  rintro e w2 ⟨hbad, hgood, hb⟩
  have HW2 := Lib.hid (bel_then HW.out hb)
  have HB2 := Lib.hid (Blk.below HB.out hb (Blk.lt HB.out))
  have HT3 := Lib.hid (HT2.out.below hb)
  have HS := Lib.hid HW.out.size
  clear hb hcon c0 c1 c2 c3 c4 c5
  cases hl : lsL t with
  | none =>
    obtain rfl := hbad hl
    have HC := Lib.hid (rootsO_none hl)
    have HW3 := Lib.hid (HW2.out.alloc HW2.out.size (.cells #[.slice none 0 0] 24))
    clear hl hbad hgood
    go_wp2_with fail
    go_ret
    exact ⟨fun _ => rfl, (fun l e => by (rw [HC.out] at e; cases e)), HW3.out⟩
  | some ls =>
    obtain ⟨lb, rfl, hlb, hlbn⟩ := hgood ls hl
    obtain ⟨n, hn, hv⟩ := tv_of hl
    have HC : Hid (rootsO t = some (rootsL t n t.par.length ls)) := by show _ = _; rw [rootsO_some hl, hn, Int.toNat_natCast]
    have HV := Lib.hid hv
    have hn4 := hv.hn
    have hm2 := hv.two
    have HLL := Lib.hid hv.lsl
    have HLB := Lib.hid (hlb.alloc (.cells #[.slice (some ⟨lb, 0, none⟩) ls.length ls.length] 24))
    have HLP := Lib.hid (Blk.new w2 24 [.slice (some ⟨lb, 0, none⟩) ls.length ls.length])
    have HW3 := Lib.hid (HW2.out.alloc HW2.out.size (.cells #[.slice (some ⟨lb, 0, none⟩) ls.length ls.length] 24))
    have HB3 := Lib.hid (Blk.alloc HB2.out (.cells #[.slice (some ⟨lb, 0, none⟩) ls.length ls.length] 24))
    have HT4 := Lib.hid (HT3.out.below (bel_alloc w2 (.cells #[.slice (some ⟨lb, 0, none⟩) ls.length ls.length] 24)))
    have HLN := Lib.hid hlbn
    have b3 := TBox.c3 HB3.out
    rw [HPO.out] at b3
    clear hl hbad hgood hv hn hlb hlbn HB HB2 HT2 HT3
    go_wp2_with fail
    clear b3
    have hlp : w.heap.size ≤ w2.heap.size := HW2.out.size
    have hsz3 : w2.heap.size < (w2.alloc (.cells #[.slice (some ⟨lb, 0, none⟩) ls.length ls.length] 24)).heap.size := by simp
    have hlb3 := HLB.out.lt
    generalize w2.alloc (.cells #[.slice (some ⟨lb, 0, none⟩) ls.length ls.length] 24) = w3 at *
    generalize w2.heap.size = lp at *
    go_loopw [5, 18] (fun v s wr => ∃ i : Nat, i ≤ t.par.length ∧ s = .int .i64 i ∧ wr.ownsRow 0 3 1 v (topsTo t i).length (natV (topsTo t i)) ∧ (∀ x, v.ownBlock = some x → w3.heap.size ≤ x) ∧ Below w3.heap.size w3 wr) (fun _ s _ => t.par.length - (intOf s).toNat)
    case atStart => exact ⟨0, Nat.zero_le _, rfl, World.ownsRow_nil _ _ _ _, fun x hx => (by cases hx), Below.refl _ _⟩
    case round =>
      obtain ⟨i, hi, rfl, hv, hvn, hb⟩ := hrel
      have HVR := Lib.hid hv
      have HVN := Lib.hid hvn
      have HBR := Lib.hid hb
      have HT5 := Lib.hid (HT4.out.below hb)
      have HWR := Lib.hid (bel_then HW3.out hb)
      clear hv hvn hb
      by_cases him : i < t.par.length
      · obtain ⟨e1, p1⟩ := HT5.out.p.get (i := i) him
        rw [HPO.out] at e1
        subst e1
        have HTS := Lib.hid (topsTo_succ t i)
        have htl := topsTo_len t i
        generalize gi t.par i = p at *
        have t1 : (i : Int) < (t.par.length : Int) := by omega
        have t2 : (0 : Int) ≤ (i : Int) := by omega
        generalize hT : topsTo t i = T at *
        generalize hT' : topsTo t (i + 1) = T' at *
        have HT' := Lib.hid hT'
        clear hT hT'
        by_cases hp : p < 0
        · have t3 : decide (p < 0) = true := by simp [hp]
          have HTT : Hid (T' = T ++ [i]) := HTS.out.trans (if_pos hp)
          have HOW := Lib.hid (HVR.out.alloc (.cells #[.int .i64 i] 3))
          have HNW := Lib.hid (news_new wr 3 [.int .i64 i])
          clear hp
          go_wp2_with (at_builtin; apply keepIt)
          apply Lib.hid
          refine wpList_appendB 3 (.int .i64 0) 1 8 Tryz.underlying24 Tryz.infoInt rfl (by decide) _ T.length _ rfl HOW.out ⟨wr.heap.size, 0, none⟩ 1 1 [.int .i64 i] rfl rfl HNW.out (by simp [Value.oneCell']) (by unfold maxLen; omega) (by omega) ?_
          intro v6 w6 ho6 hg6 hn6
          have hwr := HBR.out.size
          have HB6 : Hid (Below w3.heap.size w3 w6) := (HBR.out.alloc (by omega) _).trans (grown_below hg6 (fun k hk => HVN.out k hk) (by simp; omega))
          have HV6 : Hid (w6.ownsRow 0 3 1 v6 T'.length (natV T')) := by
            show World.ownsRow _ _ _ _ _ _ _
            rw [HTT.out, List.length_append]
            have e : natV (T ++ [i]) = natV T ++ [.int .i64 (i : Int)] := by simp [natV]
            rw [e]
            exact ho6
          have HN6 : Hid (∀ x, v6.ownBlock = some x → w3.heap.size ≤ x) := fun x hx => by
            rcases hn6 x hx with e | e
            · exact HVN.out x e
            · simp at e; omega
          clear ho6 hg6 hn6
          go_wp2_with fail
          go_roundw
          case rel => exact ⟨i + 1, by omega, by go_num, by rw [HT'.out]; exact HV6.out, HN6.out, HB6.out⟩
          case measure => simp [intOf]; omega
        · have t3 : decide (p < 0) = false := by simp; omega
          have HTT : Hid (T' = T) := HTS.out.trans (if_neg hp)
          clear hp
          go_wp2_with fail
          go_roundw
          case rel => exact ⟨i + 1, by omega, by go_num, by rw [HT'.out, HTT.out]; exact HVR.out, HVN.out, HBR.out⟩
          case measure => simp [intOf]; omega
      · obtain rfl : i = t.par.length := by omega
        have hP := roots_perm HV.out
        have hlen := hP.length_eq
        have hTl := topsTo_len t t.par.length
        have hTT : topsTo t t.par.length = tops t t.par.length := rfl
        have HRP : Hid ((rootsL t n t.par.length ls).Perm (topsTo t t.par.length)) := hP
        have HRS := Lib.hid (roots_sorted HV.out)
        have hRl : (topsTo t t.par.length).length = (rootsL t n t.par.length ls).length := hlen.symm
        have HMEM : Hid (∀ x, x ∈ topsTo t t.par.length → x < t.par.length ∧ gi t.par x < 0) := fun x hx => by
          have := List.mem_filter.1 hx
          rw [List.mem_range, decide_eq_true_eq] at this
          exact this
        clear hP hlen hTT
        have HRL := Lib.hid hRl
        generalize rootsL t n t.par.length ls = RL at *
        generalize topsTo t t.par.length = T at *
        by_cases h0 : T.length = 0
        · obtain ⟨ao, cap, rfl⟩ := owns_slice HVR.out
          rw [h0]
          have HH0 : Hid (RL = []) := List.eq_nil_of_length_eq_zero (by omega)
          have HT0 : Hid (T = []) := List.eq_nil_of_length_eq_zero h0
          clear h0 hRl
          go_wp2_with fail
          with_reducible refine (sortN_none wr ao cap _).mono ?_
          rintro e w6 ⟨rfl, rfl⟩
          go_wp2_with fail
          go_ret
          refine ⟨(fun e => by (rw [HC.out] at e; cases e)), fun l e => ?_, HWR.out⟩
          rw [HC.out] at e
          injection e with e
          subst e
          have hv := HVR.out
          rw [HT0.out] at hv
          rw [HH0.out]
          refine ⟨.slice ao 0 cap, rfl, hv, fun k hk => ?_⟩
          have := HVN.out k (by cases ao with | none => cases hk | some a => simpa [Value.ownBlock] using hk)
          have := HW3.out.size
          omega
        · obtain ⟨g, cap, rfl, _, _, _, _, _⟩ := owns_form HVR.out (by omega)
          have hgn := HVN.out g rfl
          have HGN := Lib.hid hgn
          have HRN : Hid (∀ x, x ∈ T → rt t t.par.length (ls.getD x 0) = x) := fun x hx => by
            obtain ⟨h1, h2⟩ := HMEM.out x hx
            rw [rt_ls HV.out x h1, rt_root HV.out h1 h2]
          have hcon := (sortN_ok wr g T.length cap T HVR.out rfl (by omega) (by omega) (fun x y => ls.getD x 0 < ls.getD y 0) (fun a => Nat.lt_irrefl _) (fun _ _ _ => Nat.lt_trans)
            (fun x hx y hy h1 h2 => by
              have e : ls.getD x 0 = ls.getD y 0 := by omega
              rw [← HRN.out x hx, ← HRN.out y hy, e])
            (lsC ls) (fun x _ y _ => lsC_neg ls x y) 88 #[.pointer (some ⟨lp, 0, none⟩)] HEG.out
            (fun W hW x hx y hy => rootf_ok W lp lb ls.length (by have := HLL.out; omega) (((HLP.out.below HBR.out (by omega)).mod hW (fun e => by have := HGN.out; omega)).cell (i := 0) rfl) ls ((HLB.out.below HBR.out (by omega)).mod hW (fun e => by have := HGN.out; omega)) rfl x y
              (by have := (HMEM.out x hx).1; have := HLL.out; omega) (by have := (HMEM.out y hy).1; have := HLL.out; omega))
            RL HRP.out HRS.out)
          clear h0 hRl hgn
          go_wp2_with fail
          with_reducible refine hcon.mono ?_
          rintro e w6 ⟨rfl, ho6, hm6⟩
          have HO6 := Lib.hid ho6
          have HW6 := Lib.hid (bel_mod HWR.out hm6 (fun x e => by have := HGN.out; have := HW3.out.size; omega))
          clear ho6 hm6 hcon
          go_wp2_with fail
          go_ret
          refine ⟨(fun e => by (rw [HC.out] at e; cases e)), fun l e => ?_, HW6.out⟩
          rw [HC.out] at e
          injection e with e
          subst e
          have hv := HO6.out
          rw [HRL.out] at hv
          rw [HRL.out]
          refine ⟨.slice (some ⟨g, 0, none⟩) RL.length cap, rfl, hv, fun k hk => ?_⟩
          have := HVN.out k (by simpa [Value.ownBlock] using hk)
          have := HW3.out.size
          omega

end Go.Proofs.YthacjealoomioaaGreatDoor

/- Reference of layer 18: root, least, below, Above. -/
namespace Go.Proofs.YthacjealoomioaaGreatDoor
set_option linter.unusedVariables false
set_option linter.unusedSimpArgs false
open Go.RowKit

/-- The root r lies above x. -/
inductive Up (t : Tr) (m : Nat) : Nat → Nat → Prop
  | root {x : Nat} : x < m → gi t.par x = -1 → Up t m x x
  | step {x p r : Nat} : x < m → gi t.par x = p → x < p → Up t m p r → Up t m x r

theorem Up.lt {t : Tr} {m x r : Nat} (h : Up t m x r) : x < m := by cases h <;> assumption

theorem up_of {t : Tr} {n m : Nat} {ls : List Nat} (h : TV t n m ls) : ∀ x, x < m → Up t m x (rt t m x) :=
  h.down (Q := fun x => Up t m x (rt t m x)) (fun x hx e => by
    rw [rt_root h hx e]
    rcases h.par hx with e' | ⟨p, e', _⟩
    · exact .root hx e'
    · omega) (fun x p hx hp hlt hn e ih => by rw [rt_par h hx e]; exact .step hx e hlt ih)

/-- The least leaf below x is a. -/
inductive Low (t : Tr) (n m : Nat) : Nat → Nat → Prop
  | leaf {x : Nat} : x < n → Low t n m x x
  | node {x l r a b : Nat} : n ≤ x → x < m → gi t.left x = l → gi t.right x = r → Low t n m l a → Low t n m r b → Low t n m x (min a b)

theorem low_of {t : Tr} {n m : Nat} {ls : List Nat} (h : TV t n m ls) : ∀ x, x < m → Low t n m x (ls.getD x 0) := by
  intro x
  induction x using Nat.strongRecOn with
  | _ x ih =>
    intro hx
    by_cases c : x < n
    · rw [h.ls0 x c]; exact .leaf c
    · obtain ⟨c1, c2, _, _, _, c6, c7⟩ := h.child (x := x) (by omega) hx
      have hlt := (h.inn x (by omega) hx).2.1.2.2
      have e : ls.getD x 0 = min (ls.getD (lc t x) 0) (ls.getD (rc t x) 0) := by rw [h.ls1 x (by omega) hx]; omega
      rw [e]
      exact .node (by omega) hx c6 c7 (ih _ c1 (by omega)) (ih _ c2 (by omega))

set_option maxHeartbeats 2000000 in
set_option maxRecDepth 100000 in
theorem rroot_ok (w : World) (A : TA) (t : Tr) (ht : TreeAt w A t) (x r : Nat) (hu : Up t t.par.length x r) : Calls Tryz.prog 38 #[A.agg t, .int .i64 x] w (RetB (.int .i64 r) w) := by
  have HT := Lib.hid ht
  have HB := Lib.hid (TBox.new w A t)
  have HW := Lib.hid (bel_alloc w (.cells #[.int .i64 t.lv, .slice A.l.o t.left.length A.l.c, .slice A.r.o t.right.length A.r.c, .slice A.p.o t.par.length A.p.c, .slice A.h.o t.hgt.length A.h.c, .slice A.s.o t.siz.length A.s.c] 27))
  have HT2 := Lib.hid (ht.below HW.out)
  have c3 := HB.out.c3
  have hm := ht.ln.2.2.1
  have HU := Lib.hid hu
  obtain ⟨e1, _⟩ := HT2.out.p.get hu.lt
  clear ht hu
  show Calls _ _ #[.agg #[.int .i64 t.lv, .slice A.l.o t.left.length A.l.c, .slice A.r.o t.right.length A.r.c, .slice A.p.o t.par.length A.p.c, .slice A.h.o t.hgt.length A.h.c, .slice A.s.o t.siz.length A.s.c], _] _ _
  generalize A.p.o = po at *
  subst e1
  go_enter Tryz.func38, Tryz.ntmps38
  go_wp2_with fail
  go_loop [1] (fun s => ∃ y : Nat, s = .int .i64 y ∧ Up t t.par.length y r) (fun s => t.par.length - (intOf s).toNat)
  case atStart => exact ⟨x, rfl, HU.out⟩
  case round =>
    obtain ⟨y, rfl, hy⟩ := hrel
    have hyl := hy.lt
    obtain ⟨_, p1⟩ := HT2.out.p.get hyl
    have t1 : (y : Int) < (t.par.length : Int) := by omega
    have t2 : (0 : Int) ≤ (y : Int) := by omega
    cases hy with
    | root _ e =>
      rw [e] at p1
      clear e
      go_wp2_with fail
      go_ret
      exact ⟨rfl, HW.out⟩
    | @step _ p _ _ e hlt hp =>
      rw [e] at p1
      have HP := Lib.hid hp
      have hpl := hp.lt
      have t3 : (0 : Int) ≤ (p : Int) := by omega
      clear e hp
      go_wp2_with fail
      go_round
      case rel => exact ⟨p, rfl, HP.out⟩
      case measure => simp only [intOf, Int.toNat_natCast]; omega

set_option maxHeartbeats 4000000 in
set_option maxRecDepth 100000 in
theorem rleast_ok (A : TA) (t : Tr) (n : Nat) (hn : t.lv = (n : Int)) (hl : t.left.length = t.par.length) (hr : t.right.length = t.par.length) (x a : Nat) (hx : Low t n t.par.length x a) :
    ∀ w, TreeAt w A t → Calls Tryz.prog 39 #[A.agg t, .int .i64 x] w (RetB (.int .i64 a) w) := by
  induction hx with
  | leaf hxn =>
    rename_i x
    intro w ht
    have HW := Lib.hid (bel_alloc w (.cells #[.int .i64 t.lv, .slice A.l.o t.left.length A.l.c, .slice A.r.o t.right.length A.r.c, .slice A.p.o t.par.length A.p.c, .slice A.h.o t.hgt.length A.h.c, .slice A.s.o t.siz.length A.s.c] 27))
    have HB := Lib.hid (TBox.new w A t)
    have c0 := HB.out.c0
    clear ht
    show Calls _ _ #[.agg #[.int .i64 t.lv, .slice A.l.o t.left.length A.l.c, .slice A.r.o t.right.length A.r.c, .slice A.p.o t.par.length A.p.c, .slice A.h.o t.hgt.length A.h.c, .slice A.s.o t.siz.length A.s.c], _] _ _
    have t1 : decide ((x : Int) < t.lv) = true := by simp; omega
    have HN := Lib.hid hn
    have HL := Lib.hid hl
    have HR := Lib.hid hr
    clear hn hl hr
    go_enter Tryz.func39, Tryz.ntmps39
    go_wp2_with fail
    go_ret
    exact ⟨rfl, HW.out⟩
  | node hnx hxm e1 e2 _ _ ih1 ih2 =>
    rename_i x l r a b _ _
    intro w ht
    have HW := Lib.hid (bel_alloc w (.cells #[.int .i64 t.lv, .slice A.l.o t.left.length A.l.c, .slice A.r.o t.right.length A.r.c, .slice A.p.o t.par.length A.p.c, .slice A.h.o t.hgt.length A.h.c, .slice A.s.o t.siz.length A.s.c] 27))
    have HB := Lib.hid (TBox.new w A t)
    have HT2 := Lib.hid (ht.below HW.out)
    obtain ⟨f1, l1⟩ := HT2.out.l.get (i := x) (by omega)
    obtain ⟨f2, l2⟩ := HT2.out.r.get (i := x) (by omega)
    rw [e1] at l1
    rw [e2] at l2
    have c0 := HB.out.c0
    have c1 := HB.out.c1
    have c2 := HB.out.c2
    have c3 := HB.out.c3
    have c4 := HB.out.c4
    have c5 := HB.out.c5
    have t1 : decide ((x : Int) < t.lv) = false := by simp; omega
    have t2 : (x : Int) < (t.left.length : Int) := by omega
    have t3 : (x : Int) < (t.right.length : Int) := by omega
    have t4 : (0 : Int) ≤ (x : Int) := by omega
    have HN := Lib.hid hn
    have HL := Lib.hid hl
    have HR := Lib.hid hr
    have HI1 := Lib.hid ih1
    have HI2 := Lib.hid ih2
    clear hn hl hr ht ih1 ih2 e1 e2
    show Calls _ _ #[.agg #[.int .i64 t.lv, .slice A.l.o t.left.length A.l.c, .slice A.r.o t.right.length A.r.c, .slice A.p.o t.par.length A.p.c, .slice A.h.o t.hgt.length A.h.c, .slice A.s.o t.siz.length A.s.c], _] _ _
    have HA : Hid (∀ W, TreeAt W A t → Calls Tryz.prog 39 #[.agg #[.int .i64 t.lv, .slice A.l.o t.left.length A.l.c, .slice A.r.o t.right.length A.r.c, .slice A.p.o t.par.length A.p.c, .slice A.h.o t.hgt.length A.h.c, .slice A.s.o t.siz.length A.s.c], .int .i64 l] W (RetB (.int .i64 a) W)) := HI1.out
    have HC : Hid (∀ W, TreeAt W A t → Calls Tryz.prog 39 #[.agg #[.int .i64 t.lv, .slice A.l.o t.left.length A.l.c, .slice A.r.o t.right.length A.r.c, .slice A.p.o t.par.length A.p.c, .slice A.h.o t.hgt.length A.h.c, .slice A.s.o t.siz.length A.s.c], .int .i64 r] W (RetB (.int .i64 b) W)) := HI2.out
    clear HI1 HI2
    generalize A.l.o = lo at *
    generalize A.r.o = ro at *
    subst f1 f2
    go_enter Tryz.func39, Tryz.ntmps39
    go_wp2_with fail
    generalize (w.alloc (.cells #[.int .i64 t.lv, .slice (some ⟨A.l.b, A.l.f, none⟩) t.left.length A.l.c, .slice (some ⟨A.r.b, A.r.f, none⟩) t.right.length A.r.c, .slice A.p.o t.par.length A.p.c, .slice A.h.o t.hgt.length A.h.c, .slice A.s.o t.siz.length A.s.c] 27)) = W at *
    have x0 := cell_regrown c0
    have x1 := cell_regrown c1
    have x2 := cell_regrown c2
    have x3 := cell_regrown c3
    have x4 := cell_regrown c4
    have x5 := cell_regrown c5
    have x6 := cell_regrown l1
    have x7 := cell_regrown l2
    refine wp_region_quiet_below (by kernel_rfl) (by kernel_rfl) ?_
    repeat (go_big_quiet_step (first
      | (go_at_call 39; with_reducible (show Calls _ _ #[_, .int .i64 (l : Int)] _ _); exact Calls.regrown_of ((HA.out _ (HT2.out.below (below_regrown W _ _))).mono fun _ _ ⟨he, hb⟩ => ⟨he, hb⟩))
      | (go_at_call 39; with_reducible (show Calls _ _ #[_, .int .i64 (r : Int)] _ _); exact Calls.regrown_of ((HC.out _ (HT2.out.below (below_regrown W _ _))).mono fun _ _ ⟨he, hb⟩ => ⟨he, hb⟩))))
    refine wpQuiet_nil ?_
    intro W2 hw2
    obtain ⟨⟨dq, osq⟩, hw3⟩ := hw2
    have HBG : Hid (Below w.heap.size w W2) := bel_then HW.out (by rw [hw3]; exact below_regrown W dq osq)
    clear hw3 x0 x1 x2 x3 x4 x5 x6 x7
    by_cases hab : a < b
    · have t5 : decide (a < b) = true := by simp [hab]
      have HM : Hid (min a b = a) := Nat.min_eq_left (by omega)
      clear hab
      go_wp2_with fail
      go_ret
      rw [HM.out]
      exact ⟨rfl, HBG.out⟩
    · have t5 : decide (a < b) = false := by simp; omega
      have HM : Hid (min a b = b) := Nat.min_eq_right (by omega)
      clear hab
      go_wp2_with fail
      go_ret
      rw [HM.out]
      exact ⟨rfl, HBG.out⟩

end Go.Proofs.YthacjealoomioaaGreatDoor

/- Reference of layer 18: Check. -/
namespace Go.Proofs.YthacjealoomioaaGreatDoor
set_option linter.unusedVariables false
set_option linter.unusedSimpArgs false
open Go.RowKit

theorem no_ok {t : Tr} {x : Nat} (hx : x < t.par.length) (h : ¬ OkAt t (lowF t x) x) : chk t = 2 := chk_none (lsL_none (.inr ⟨x, hx, h⟩))
theorem no_head {t : Tr} (h : ¬ HeadOk t) : chk t = 2 := chk_none (lsL_none (.inl h))

theorem chk_ok {t : Tr} {n : Nat} (hlv : t.lv = (n : Int)) (hn : n ≤ 4096) (hl : LensOk t) (hnm : n ≤ t.par.length) (h1 : ∀ y, y < n → LeafAt t y) (h2 : ∀ y, n ≤ y → y < t.par.length → InnAt t (lowF t y) y) (h3 : ∀ y, y < t.par.length → BelAt t y) : chk t = 0 := by
  have tv : TV t n t.par.length (lowF t t.par.length) := by
    refine ⟨hlv, hn, hnm, rfl, hl.1, hl.2.1, hl.2.2.1, hl.2.2.2, lowF_len _ _, h1, fun x k1 k2 => (h2 x k1 k2).congr (fun y hy => lowF_at t (by omega) hy), h3, fun x hx => ?_, fun x k1 k2 => ?_⟩
    · rw [lowF_at t (x := x + 1) (by omega) (by omega), lowF_last]
      unfold lsNext
      rw [if_pos (by omega)]
    · obtain ⟨⟨i1, i2⟩, _⟩ := (h2 x k1 k2).1
      have hc : lc t x < x := by unfold lc; omega
      rw [lowF_at t (x := x + 1) (by omega) (by omega), lowF_last, lowF_at t (x := x) (by omega) hc]
      unfold lsNext
      rw [if_neg (by omega)]
  exact chk_some tv.ls_some

/-- An inner node, by its numbers. -/
theorem inn_iff2 {t : Tr} {ls : List Nat} {x : Nat} {a b : Int} (ha : gi t.left x = a) (hb : gi t.right x = b) : InnAt t ls x ↔ (((0 ≤ a ∧ a < x) ∧ (0 ≤ b ∧ b < x) ∧ a ≠ b) ∧
    (gi t.par a.toNat = x ∧ gi t.par b.toNat = x ∧ ls.getD a.toNat 0 < ls.getD b.toNat 0) ∧ gi t.siz x = IntKind.i64.wrap (gi t.siz a.toNat + gi t.siz b.toNat) ∧ ((x : Int) = t.lv ∨ gi t.hgt (x - 1) ≤ gi t.hgt x)) := by
  subst ha hb; exact Iff.rfl

theorem leaf_next {t : Tr} {n x : Nat} (hlv : t.lv = (n : Int)) (hx : x < n) : x = lsNext t (lowF t x) x := by unfold lsNext; rw [if_pos (by omega)]

set_option maxHeartbeats 16000000 in
set_option maxRecDepth 100000 in
theorem rcheck_ok (w : World) (A : TA) (t : Tr) (ht : TreeAt w A t) (hmm : t.left.length ≤ 1000000) : Calls Tryz.prog 51 #[A.agg t] w (RetB (.int .i64 (chk t)) w) := by
  have HT := Lib.hid ht
  have HB := Lib.hid (TBox.new w A t)
  have HW := Lib.hid (bel_alloc w (.cells #[.int .i64 t.lv, .slice A.l.o t.left.length A.l.c, .slice A.r.o t.right.length A.r.c, .slice A.p.o t.par.length A.p.c, .slice A.h.o t.hgt.length A.h.c, .slice A.s.o t.siz.length A.s.c] 27))
  have c0 := HB.out.c0
  have c1 := HB.out.c1
  have c2 := HB.out.c2
  have c3 := HB.out.c3
  have c4 := HB.out.c4
  have c5 := HB.out.c5
  obtain ⟨ln1, ln2, ln3, ln4, ln5⟩ := ht.ln
  obtain ⟨k1, k2⟩ := ht.lw
  clear ht
  show Calls _ _ #[.agg #[.int .i64 t.lv, .slice A.l.o t.left.length A.l.c, .slice A.r.o t.right.length A.r.c, .slice A.p.o t.par.length A.p.c, .slice A.h.o t.hgt.length A.h.c, .slice A.s.o t.siz.length A.s.c]] _ _
  have hsz : w.heap.size < (w.alloc (.cells #[.int .i64 t.lv, .slice A.l.o t.left.length A.l.c, .slice A.r.o t.right.length A.r.c, .slice A.p.o t.par.length A.p.c, .slice A.h.o t.hgt.length A.h.c, .slice A.s.o t.siz.length A.s.c] 27)).heap.size := by simp
  generalize hlo : A.l.o = lo at *
  generalize hro : A.r.o = ro at *
  generalize hpo : A.p.o = po at *
  generalize hho : A.h.o = ho at *
  generalize hso : A.s.o = so at *
  have HLO := Lib.hid hlo
  have HRO := Lib.hid hro
  have HPO := Lib.hid hpo
  have HHO := Lib.hid hho
  have HSO := Lib.hid hso
  clear hlo hro hpo hho hso
  obtain ⟨kk, HK⟩ : ∃ kk, Hid (chk t = kk) := ⟨_, rfl⟩
  rw [HK.out]
  by_cases p0 : t.lv < 0
  · have t0 : decide (t.lv < 0) = true := by simp [p0]
    have HF : Hid (2 = kk) := by show _ = _; rw [← HK.out]; exact (no_head (by rintro ⟨⟨h, _⟩, _⟩; omega)).symm
    clear p0
    go_enter Tryz.func51, Tryz.ntmps51
    go_wp2_with fail
    go_ret
    exact ⟨ret_int HF.out, HW.out⟩
  have t0 : decide (t.lv < 0) = false := by simp; omega
  by_cases p1 : 4096 < t.lv
  · have t1 : decide (4096 < t.lv) = true := by simp [p1]
    have HF : Hid (2 = kk) := by show _ = _; rw [← HK.out]; exact (no_head (by rintro ⟨⟨_, h, _⟩, _⟩; omega)).symm
    clear p0 p1
    go_enter Tryz.func51, Tryz.ntmps51
    go_wp2_with fail
    go_ret
    exact ⟨ret_int HF.out, HW.out⟩
  have t1 : decide (4096 < t.lv) = false := by simp; omega
  by_cases p2 : t.right.length ≠ t.left.length
  · have t2 : ((t.right.length : Int) != (t.left.length : Int)) = true := by simp; omega
    have HF : Hid (2 = kk) := by show _ = _; rw [← HK.out]; exact (no_head (by rintro ⟨_, h1, h2, h3, h4⟩; omega)).symm
    clear p0 p1 p2
    go_enter Tryz.func51, Tryz.ntmps51
    go_wp2_with fail
    go_ret
    exact ⟨ret_int HF.out, HW.out⟩
  have t2 : ((t.right.length : Int) != (t.left.length : Int)) = false := by simp; omega
  by_cases p3 : t.par.length ≠ t.left.length
  · have t3 : ((t.par.length : Int) != (t.left.length : Int)) = true := by simp; omega
    have HF : Hid (2 = kk) := by show _ = _; rw [← HK.out]; exact (no_head (by rintro ⟨_, h1, h2, h3, h4⟩; omega)).symm
    clear p0 p1 p2 p3
    go_enter Tryz.func51, Tryz.ntmps51
    go_wp2_with fail
    go_ret
    exact ⟨ret_int HF.out, HW.out⟩
  have t3 : ((t.par.length : Int) != (t.left.length : Int)) = false := by simp; omega
  by_cases p4 : t.hgt.length ≠ t.left.length
  · have t4 : ((t.hgt.length : Int) != (t.left.length : Int)) = true := by simp; omega
    have HF : Hid (2 = kk) := by show _ = _; rw [← HK.out]; exact (no_head (by rintro ⟨_, h1, h2, h3, h4⟩; omega)).symm
    clear p0 p1 p2 p3 p4
    go_enter Tryz.func51, Tryz.ntmps51
    go_wp2_with fail
    go_ret
    exact ⟨ret_int HF.out, HW.out⟩
  have t4 : ((t.hgt.length : Int) != (t.left.length : Int)) = false := by simp; omega
  by_cases p5 : t.siz.length ≠ t.left.length
  · have t5 : ((t.siz.length : Int) != (t.left.length : Int)) = true := by simp; omega
    have HF : Hid (2 = kk) := by show _ = _; rw [← HK.out]; exact (no_head (by rintro ⟨_, h1, h2, h3, h4⟩; omega)).symm
    clear p0 p1 p2 p3 p4 p5
    go_enter Tryz.func51, Tryz.ntmps51
    go_wp2_with fail
    go_ret
    exact ⟨ret_int HF.out, HW.out⟩
  have t5 : ((t.siz.length : Int) != (t.left.length : Int)) = false := by simp; omega
  by_cases p6 : (t.left.length : Int) < t.lv
  · have t6 : decide ((t.left.length : Int) < t.lv) = true := by simp [p6]
    have HF : Hid (2 = kk) := by show _ = _; rw [← HK.out]; exact (no_head (by rintro ⟨⟨_, _, h, _⟩, h1, _⟩; omega)).symm
    clear p0 p1 p2 p3 p4 p5 p6
    go_enter Tryz.func51, Tryz.ntmps51
    go_wp2_with fail
    go_ret
    exact ⟨ret_int HF.out, HW.out⟩
  have t6 : decide ((t.left.length : Int) < t.lv) = false := by simp; omega
  have q2 : t.right.length = t.left.length := by omega
  have q3 : t.par.length = t.left.length := by omega
  have q4 : t.hgt.length = t.left.length := by omega
  have q5 : t.siz.length = t.left.length := by omega
  have HL : Hid (LensOk t) := ⟨by omega, by omega, by omega, by omega⟩
  obtain ⟨n, hn⟩ := Int.eq_ofNat_of_zero_le (show 0 ≤ t.lv by omega)
  have hn4 : n ≤ 4096 := by omega
  have hnm : n ≤ t.par.length := by omega
  have HQ : Hid (t.left.length = t.par.length ∧ t.right.length = t.par.length ∧ t.hgt.length = t.par.length ∧ t.siz.length = t.par.length) := ⟨by omega, by omega, by omega, by omega⟩
  have HN := Lib.hid hn
  clear p0 p1 p2 p3 p4 p5 p6 q2 q3 q4 q5 hn
  go_enter Tryz.func51, Tryz.ntmps51
  go_wp2_with (at_make; apply keepIt)
  apply Lib.hid
  refine wpList_makeB 3 (.int .i64 0) 8 Tryz.underlying24 Tryz.infoInt rfl _ _ _ _ t.left.length rfl rfl rfl rfl (by omega) (by unfold maxLen; omega) ?_
  intro w3 B3 hb3
  have HB3 := Lib.hid B3
  have HW3 := Lib.hid (bel_then HW.out hb3)
  have HX3 := Lib.hid (Blk.below HB.out hb3 hsz)
  have hs3 := hb3.size
  clear B3 hb3 c0 c1 c2 c3 c4 c5 HB HW t0 t1 t2 t3 t4 t5 t6 hs3
  generalize (w.alloc (.cells #[.int .i64 t.lv, .slice lo t.left.length A.l.c, .slice ro t.right.length A.r.c, .slice po t.par.length A.p.c, .slice ho t.hgt.length A.h.c, .slice so t.siz.length A.s.c] 27)).heap.size = lb at *
  have HT3 := Lib.hid (HT.out.below HW3.out)
  have HAN : Hid (∀ k, A.has t k → k ≠ lb) := fun k hk => by have := HT.out.lt hk; omega
  have hne : w.heap.size ≠ lb := by omega
  have HB0 : Hid (Blk w3 lb 3 (natV (lsZ t t.left.length 0))) := by
    have e : lsZ t t.left.length 0 = List.replicate t.left.length 0 := by unfold lsZ; simp [lowF]
    show Blk _ _ _ _
    rw [e, natV_zero]
    exact HB3.out
  clear HB3
  go_wp2_with fail
  go_loopw [5] (fun s wr => ∃ x : Nat, x ≤ n ∧ s = .int .i64 x ∧ Blk wr lb 3 (natV (lsZ t t.left.length x)) ∧ Mod (fun k => k = lb) w3 wr ∧ ∀ y, y < x → LeafAt t y) (fun s _ => n - (intOf s).toNat)
  case atStart => exact ⟨0, Nat.zero_le _, rfl, HB0.out, Mod.refl _ _, fun y hy => by omega⟩
  case round =>
    obtain ⟨x, hx, rfl, hb, hm, hok⟩ := hrel
    clear HB0
    have HBR := Lib.hid hb
    have HMR := Lib.hid hm
    have HOK := Lib.hid hok
    have HTR := Lib.hid (HT3.out.mod hm HAN.out)
    have HXR := Lib.hid (Blk.mod HX3.out hm hne)
    have HWR := Lib.hid (bel_mod HW3.out hm (fun k e => by omega))
    have c0 := TBox.c0 HXR.out
    have c1 := TBox.c1 HXR.out
    have c2 := TBox.c2 HXR.out
    have c3 := TBox.c3 HXR.out
    have c4 := TBox.c4 HXR.out
    have c5 := TBox.c5 HXR.out
    rw [HLO.out] at c1
    rw [HRO.out] at c2
    rw [HPO.out] at c3
    rw [HHO.out] at c4
    rw [HSO.out] at c5
    clear hb hm hok
    by_cases hxn : x < n
    · have t0 : decide ((x : Int) < t.lv) = true := by have := HN.out; simp; omega
      obtain ⟨q1, q2, q4, q5⟩ := HQ.out
      obtain ⟨e1, l1⟩ := HTR.out.l.get (i := x) (by omega)
      obtain ⟨e2, l2⟩ := HTR.out.r.get (i := x) (by omega)
      obtain ⟨e4, l4⟩ := HTR.out.h.get (i := x) (by omega)
      obtain ⟨e5, l5⟩ := HTR.out.s.get (i := x) (by omega)
      rw [HLO.out] at e1
      rw [HRO.out] at e2
      rw [HHO.out] at e4
      rw [HSO.out] at e5
      subst e1 e2 e4 e5
      have HNO : Hid (¬ LeafAt t x → 2 = kk) := fun h => by
        rw [← HK.out]
        exact (no_ok (x := x) (by omega) (fun ho => ho.1.elim (fun h1 => by have := HN.out; omega) h)).symm
      have HLF : Hid (LeafAt t x ↔ gi t.left x = -1 ∧ gi t.right x = -1 ∧ gi t.hgt x = 0 ∧ gi t.siz x = 1) := Iff.rfl
      have l0 := blkN HBR.out (i := x) (by rw [lsZ_len (by omega)]; omega)
      have f0 := HBR.out.free x
      generalize (lsZ t t.left.length x).getD x 0 = old at *
      have x1 : (x : Int) < (t.left.length : Int) := by omega
      have x2 : (x : Int) < (t.right.length : Int) := by omega
      have x4 : (x : Int) < (t.hgt.length : Int) := by omega
      have x5 : (x : Int) < (t.siz.length : Int) := by omega
      have x6 : (0 : Int) ≤ (x : Int) := by omega
      have hxl : x < t.left.length := by omega
      clear q1 q2 q4 q5
      generalize gi t.left x = a at *
      generalize gi t.right x = b at *
      generalize gi t.hgt x = c at *
      generalize gi t.siz x = d at *
      by_cases g0 : a ≠ -1
      · have u0 : (a != -1) = true := by simp [g0]
        have HF := Lib.hid (HNO.out (fun h => by have := HLF.out.1 h; omega))
        clear g0
        go_wp2_with fail
        go_ret
        exact ⟨ret_int HF.out, HWR.out⟩
      have u0 : (a != -1) = false := by simp; omega
      replace g0 := Classical.not_not.1 g0
      have G0 := Lib.hid g0
      clear g0
      by_cases g1 : b ≠ -1
      · have u1 : (b != -1) = true := by simp [g1]
        have HF := Lib.hid (HNO.out (fun h => by have := HLF.out.1 h; omega))
        clear g1
        go_wp2_with fail
        go_ret
        exact ⟨ret_int HF.out, HWR.out⟩
      have u1 : (b != -1) = false := by simp; omega
      replace g1 := Classical.not_not.1 g1
      have G1 := Lib.hid g1
      clear g1
      by_cases g2 : c ≠ 0
      · have u2 : (c != 0) = true := by simp [g2]
        have HF := Lib.hid (HNO.out (fun h => by have := HLF.out.1 h; omega))
        clear g2
        go_wp2_with fail
        go_ret
        exact ⟨ret_int HF.out, HWR.out⟩
      have u2 : (c != 0) = false := by simp; omega
      replace g2 := Classical.not_not.1 g2
      have G2 := Lib.hid g2
      clear g2
      by_cases g3 : d ≠ 1
      · have u3 : (d != 1) = true := by simp [g3]
        have HF := Lib.hid (HNO.out (fun h => by have := HLF.out.1 h; omega))
        clear g3
        go_wp2_with fail
        go_ret
        exact ⟨ret_int HF.out, HWR.out⟩
      have u3 : (d != 1) = false := by simp; omega
      replace g3 := Classical.not_not.1 g3
      have G3 := Lib.hid g3
      clear g3
      have HOK2 : Hid (∀ y, y < x + 1 → LeafAt t y) := fun y hy => by
        by_cases e : y = x
        · subst e; exact HLF.out.2 ⟨G0.out, G1.out, G2.out, G3.out⟩
        · exact HOK.out y (by omega)
      have HB4 : Hid (Blk (wr.setCell ⟨lb, x, none⟩ (.int .i64 x)) lb 3 (natV (lsZ t t.left.length (x + 1)))) := by
        have := blkN_set HBR.out x x
        rw [lsZ_set hxl x (leaf_next HN.out hxn)] at this
        exact this
      go_wp2_with fail
      go_roundw
      case rel => exact ⟨x + 1, by omega, by go_num, HB4.out, HMR.out.setCell _ (fun _ => rfl) _, HOK2.out⟩
      case measure => simp [intOf]; omega
    · obtain rfl : n = x := by omega
      have t0 : decide ((n : Int) < t.lv) = false := by have := HN.out; simp; omega
      have HLV : Hid (Value.int .i64 t.lv = .int .i64 (n : Int)) := by show _ = _; rw [HN.out]
      clear hxn
      go_wp2_with fail
      have HLFS := Lib.hid HOK.out
      have HBS := Lib.hid HBR.out
      have HMS := Lib.hid HMR.out
      clear c0 c1 c2 c3 c4 c5 HXR HTR HWR HBR HMR HOK t0
      obtain ⟨wo, rfl⟩ : ∃ wo : World, wo = wr := ⟨_, rfl⟩
      go_loopw [6] (fun s wr => ∃ x : Nat, n ≤ x ∧ x ≤ t.left.length ∧ s = .int .i64 x ∧ Blk wr lb 3 (natV (lsZ t t.left.length x)) ∧ Mod (fun k => k = lb) w3 wr ∧ ∀ y, n ≤ y → y < x → InnAt t (lowF t y) y) (fun s _ => t.left.length - (intOf s).toNat)
      case atStart => exact ⟨n, Nat.le_refl _, by have := HQ.out.1; omega, HLV.out, HBS.out, HMS.out, fun y h1 h2 => by omega⟩
      case round =>
        obtain ⟨x, hnx, hx, rfl, hb, hm, hok⟩ := hrel
        clear HBS HMS
        have HBR := Lib.hid hb
        have HMR := Lib.hid hm
        have HOK := Lib.hid hok
        have HTR := Lib.hid (HT3.out.mod hm HAN.out)
        have HXR := Lib.hid (Blk.mod HX3.out hm hne)
        have HWR := Lib.hid (bel_mod HW3.out hm (fun k e => by omega))
        have c0 := TBox.c0 HXR.out
        have c1 := TBox.c1 HXR.out
        have c2 := TBox.c2 HXR.out
        have c3 := TBox.c3 HXR.out
        have c4 := TBox.c4 HXR.out
        have c5 := TBox.c5 HXR.out
        rw [HLO.out] at c1
        rw [HRO.out] at c2
        rw [HPO.out] at c3
        rw [HHO.out] at c4
        rw [HSO.out] at c5
        clear hb hm hok
        by_cases hxm : x < t.left.length
        · have t0 : (x : Int) < (t.left.length : Int) := by omega
          obtain ⟨q1, q2, q4, q5⟩ := HQ.out
          have hxp : x < t.par.length := by omega
          obtain ⟨e1, l1⟩ := HTR.out.l.get (i := x) (by omega)
          obtain ⟨e2, l2⟩ := HTR.out.r.get (i := x) (by omega)
          obtain ⟨e3, _⟩ := HTR.out.p.get (i := x) (by omega)
          obtain ⟨e4, h4⟩ := HTR.out.h.get (i := x) (by omega)
          obtain ⟨e5, s1⟩ := HTR.out.s.get (i := x) (by omega)
          rw [HLO.out] at e1
          rw [HRO.out] at e2
          rw [HPO.out] at e3
          rw [HHO.out] at e4
          rw [HSO.out] at e5
          subst e1 e2 e3 e4 e5
          have HNO : Hid (¬ InnAt t (lowF t x) x → 2 = kk) := fun h => by
            rw [← HK.out]
            exact (no_ok (x := x) hxp (fun ho => ho.2.1.elim (fun h1 => by have := HN.out; omega) h)).symm
          have l0 := blkN HBR.out (i := x) (by rw [lsZ_len (by omega)]; omega)
          have f0 := HBR.out.free x
          have HLSA : Hid (∀ y, y < x → wr.cell? ⟨lb, y, none⟩ = some (.int .i64 (((lowF t x).getD y 0 : Nat) : Int))) := fun y hy => by
            have := blkN HBR.out (i := y) (by rw [lsZ_len (by omega)]; omega)
            rw [lsZ_at hy] at this
            exact this
          generalize (lsZ t t.left.length x).getD x 0 = old at *
          have x2 : (x : Int) < (t.right.length : Int) := by omega
          have x3 : (x : Int) < (t.par.length : Int) := by omega
          have x4 : (x : Int) < (t.hgt.length : Int) := by omega
          have x5 : (x : Int) < (t.siz.length : Int) := by omega
          have x6 : (0 : Int) ≤ (x : Int) := by omega
          clear q1 q2 q4 q5
          obtain ⟨a, HA⟩ : ∃ p, Hid (gi t.left x = p) := ⟨_, rfl⟩
          obtain ⟨b, HB2⟩ : ∃ p, Hid (gi t.right x = p) := ⟨_, rfl⟩
          rw [HA.out] at l1
          rw [HB2.out] at l2
          have HL2 := Lib.hid (inn_iff2 (ls := lowF t x) HA.out HB2.out)
          by_cases hg : a < 0
          · have g0 : decide (a < 0) = true := by simp [hg]
            have HF := Lib.hid (HNO.out (fun hh => by
              obtain ⟨⟨⟨k1, k2⟩, ⟨k3, k4⟩, k5⟩, ⟨k6, k7, k8⟩, k9, k10⟩ := HL2.out.1 hh
              omega))
            clear hg
            go_wp2_with fail
            go_quiet (fail)
            go_wp2_with fail
            go_ret
            exact ⟨ret_int HF.out, by repeat (first | exact HWR.out | apply bel_drewN)⟩
          have g0 : decide (a < 0) = false := by simp; omega
          have q0 := hg
          clear hg
          by_cases hg : b < 0
          · have g1 : decide (b < 0) = true := by simp [hg]
            have HF := Lib.hid (HNO.out (fun hh => by
              obtain ⟨⟨⟨k1, k2⟩, ⟨k3, k4⟩, k5⟩, ⟨k6, k7, k8⟩, k9, k10⟩ := HL2.out.1 hh
              omega))
            clear hg
            go_wp2_with fail
            go_quiet (fail)
            go_wp2_with fail
            go_ret
            exact ⟨ret_int HF.out, by repeat (first | exact HWR.out | apply bel_drewN)⟩
          have g1 : decide (b < 0) = false := by simp; omega
          have q1 := hg
          clear hg
          by_cases hg : (x : Int) ≤ a
          · have g2 : decide ((x : Int) ≤ a) = true := by simp [hg]
            have HF := Lib.hid (HNO.out (fun hh => by
              obtain ⟨⟨⟨k1, k2⟩, ⟨k3, k4⟩, k5⟩, ⟨k6, k7, k8⟩, k9, k10⟩ := HL2.out.1 hh
              omega))
            clear hg
            go_wp2_with fail
            go_quiet (fail)
            go_wp2_with fail
            go_ret
            exact ⟨ret_int HF.out, by repeat (first | exact HWR.out | apply bel_drewN)⟩
          have g2 : decide ((x : Int) ≤ a) = false := by simp; omega
          have q2 := hg
          clear hg
          by_cases hg : (x : Int) ≤ b
          · have g3 : decide ((x : Int) ≤ b) = true := by simp [hg]
            have HF := Lib.hid (HNO.out (fun hh => by
              obtain ⟨⟨⟨k1, k2⟩, ⟨k3, k4⟩, k5⟩, ⟨k6, k7, k8⟩, k9, k10⟩ := HL2.out.1 hh
              omega))
            clear hg
            go_wp2_with fail
            go_quiet (fail)
            go_wp2_with fail
            go_ret
            exact ⟨ret_int HF.out, by repeat (first | exact HWR.out | apply bel_drewN)⟩
          have g3 : decide ((x : Int) ≤ b) = false := by simp; omega
          have q3 := hg
          clear hg
          by_cases hg : a = b
          · have g4 : (a == b) = true := by simp [hg]
            have HF := Lib.hid (HNO.out (fun hh => by
              obtain ⟨⟨⟨k1, k2⟩, ⟨k3, k4⟩, k5⟩, ⟨k6, k7, k8⟩, k9, k10⟩ := HL2.out.1 hh
              exact k5 hg))
            clear hg
            go_wp2_with fail
            go_quiet (fail)
            go_wp2_with fail
            go_ret
            exact ⟨ret_int HF.out, by repeat (first | exact HWR.out | apply bel_drewN)⟩
          have g4 : (a == b) = false := by simp [hg]
          have q4 := hg
          clear hg
          obtain ⟨la, rfl⟩ := Int.eq_ofNat_of_zero_le (show 0 ≤ a by omega)
          obtain ⟨ra, rfl⟩ := Int.eq_ofNat_of_zero_le (show 0 ≤ b by omega)
          have hla : la < x := by omega
          have hra : ra < x := by omega
          have g2x : decide ((x : Int) ≤ (la : Int)) = false := by simp; omega
          have g2y : decide (x ≤ la) = false := by simp; omega
          have g3y : decide (x ≤ ra) = false := by simp; omega
          have g4y : ((la : Int) == (ra : Int)) = false := by simp; omega
          clear q0 q1 q2 q3
          have Q4 := Lib.hid q4
          clear q4
          simp only [Int.toNat_natCast] at HL2
          obtain ⟨qq1, qq2, qq4, qq5⟩ := HQ.out
          obtain ⟨_, p1⟩ := HTR.out.p.get (i := la) (by omega)
          obtain ⟨_, p2⟩ := HTR.out.p.get (i := ra) (by omega)
          obtain ⟨_, s2⟩ := HTR.out.s.get (i := la) (by omega)
          obtain ⟨_, s3⟩ := HTR.out.s.get (i := ra) (by omega)
          have m1 := HLSA.out la hla
          have m2 := HLSA.out ra hra
          have HMA : Hid ((lowF t x).getD la 0 = lsNext t (lowF t x) x) := by
            show _ = _
            unfold lsNext lc
            rw [if_neg (by have := HN.out; omega), HA.out]
            rfl
          have y1 : (la : Int) < (t.par.length : Int) := by omega
          have y2 : (ra : Int) < (t.par.length : Int) := by omega
          have y3 : (la : Int) < (t.left.length : Int) := by omega
          have y4 : (ra : Int) < (t.left.length : Int) := by omega
          have y5 : (la : Int) < (t.siz.length : Int) := by omega
          have y6 : (ra : Int) < (t.siz.length : Int) := by omega
          have y7 : (0 : Int) ≤ (la : Int) := by omega
          have y8 : (0 : Int) ≤ (ra : Int) := by omega
          clear qq1 qq2 qq4 qq5
          generalize gi t.par la = pa at *
          generalize gi t.par ra = pb at *
          generalize (lowF t x).getD la 0 = ma at *
          generalize (lowF t x).getD ra 0 = mb at *
          generalize gi t.siz x = sx at *
          generalize gi t.siz la = sa at *
          generalize gi t.siz ra = sb at *
          obtain ⟨sw, HSW⟩ : ∃ sw, Hid (IntKind.i64.wrap (sa + sb) = sw) := ⟨_, rfl⟩
          rw [HSW.out] at HL2
          have hsw := HSW.out
          by_cases hg : pa ≠ x
          · have g5 : (pa != (x : Int)) = true := by simp [hg]
            have HF := Lib.hid (HNO.out (fun hh => by
              obtain ⟨⟨⟨k1, k2⟩, ⟨k3, k4⟩, k5⟩, ⟨k6, k7, k8⟩, k9, k10⟩ := HL2.out.1 hh
              exact hg k6))
            clear hg
            go_wp2_with fail
            go_quiet (fail)
            go_wp2_with fail
            go_ret
            exact ⟨ret_int HF.out, by repeat (first | exact HWR.out | apply bel_drewN)⟩
          have g5 : (pa != (x : Int)) = false := by simp; omega
          have Q5 := Lib.hid hg
          clear hg
          by_cases hg : pb ≠ x
          · have g6 : (pb != (x : Int)) = true := by simp [hg]
            have HF := Lib.hid (HNO.out (fun hh => by
              obtain ⟨⟨⟨k1, k2⟩, ⟨k3, k4⟩, k5⟩, ⟨k6, k7, k8⟩, k9, k10⟩ := HL2.out.1 hh
              exact hg k7))
            clear hg
            go_wp2_with fail
            go_quiet (fail)
            go_wp2_with fail
            go_ret
            exact ⟨ret_int HF.out, by repeat (first | exact HWR.out | apply bel_drewN)⟩
          have g6 : (pb != (x : Int)) = false := by simp; omega
          have Q6 := Lib.hid hg
          clear hg
          by_cases hg : mb ≤ ma
          · have g7 : decide (mb ≤ ma) = true := by simp [hg]
            have g7x : decide ((mb : Int) ≤ (ma : Int)) = true := by simp; omega
            have HF := Lib.hid (HNO.out (fun hh => by
              obtain ⟨⟨⟨k1, k2⟩, ⟨k3, k4⟩, k5⟩, ⟨k6, k7, k8⟩, k9, k10⟩ := HL2.out.1 hh
              omega))
            clear hg
            go_wp2_with fail
            go_quiet (fail)
            go_wp2_with fail
            go_quiet (fail)
            go_wp2_with fail
            go_ret
            exact ⟨ret_int HF.out, by repeat (first | exact HWR.out | apply bel_drewN)⟩
          have g7 : decide (mb ≤ ma) = false := by simp; omega
          have g7x : decide ((mb : Int) ≤ (ma : Int)) = false := by simp; omega
          have Q7 := Lib.hid hg
          clear hg
          by_cases hg : sx ≠ sw
          · have g8 : (sx != sw) = true := by simp [hg]
            have HF := Lib.hid (HNO.out (fun hh => by
              obtain ⟨⟨⟨k1, k2⟩, ⟨k3, k4⟩, k5⟩, ⟨k6, k7, k8⟩, k9, k10⟩ := HL2.out.1 hh
              exact hg k9))
            clear hg
            go_wp2_with fail
            go_quiet (fail)
            go_wp2_with fail
            go_quiet (fail)
            go_wp2_with fail
            go_ret
            exact ⟨ret_int HF.out, by repeat (first | exact HWR.out | apply bel_drewN)⟩
          have g8 : (sx != sw) = false := by simp; omega
          have Q8 := Lib.hid hg
          clear hg
          by_cases hg : (x : Int) = t.lv
          · have g9 : decide (t.lv < (x : Int)) = false := by simp; omega
            have HIN : Hid (InnAt t (lowF t x) x) := by
              have k4 := Q4.out
              have k5 := Q5.out
              have k6 := Q6.out
              have k7 := Q7.out
              have k8 := Q8.out
              exact HL2.out.2 ⟨⟨⟨by omega, by omega⟩, ⟨by omega, by omega⟩, by omega⟩, ⟨by omega, by omega, by omega⟩, by omega, .inl hg⟩
            clear hg
            have HM4 : Hid (∀ q, Mod (fun k => k = lb) w3 ((wr.drewN q).setCell ⟨lb, x, none⟩ (.int .i64 (ma : Int)))) := fun q => (HMR.out.drewN q).setCell ⟨lb, x, none⟩ (fun _ => rfl) _
            have HOK2 : Hid (∀ y, n ≤ y → y < x + 1 → InnAt t (lowF t y) y) := fun y h1 h2 => by
              by_cases e : y = x
              · subst e; exact HIN.out
              · exact HOK.out y h1 (by omega)
            have HB4 : Hid (∀ q1, Blk ((wr.drewN q1).setCell ⟨lb, x, none⟩ (.int .i64 (ma : Int))) lb 3 (natV (lsZ t t.left.length (x + 1)))) := fun q1 => by
              have := blkN_set (HBR.out.drewN q1) x ma
              rw [lsZ_set hxm ma HMA.out] at this
              exact this
            go_wp2_with fail
            go_quiet (fail)
            go_wp2_with fail
            go_quiet (fail)
            go_wp2_with fail
            go_roundw
            case rel => exact ⟨x + 1, by omega, by omega, by go_num, HB4.out _, HM4.out _, HOK2.out⟩
            case measure => simp [intOf]; omega
          have g9 : decide (t.lv < (x : Int)) = true := by have := HN.out; simp; omega
          obtain ⟨x', hx'⟩ : ∃ x', x = x' + 1 := ⟨x - 1, by have := HN.out; omega⟩
          obtain ⟨_, h5⟩ := HTR.out.h.get (i := x') (by have := HQ.out.2.2.1; omega)
          have w1 : IntKind.i64.wrap ((x : Int) - 1) = (x' : Int) := by rw [Go.IntWalk.i64_in _ (by omega)]; omega
          have y10 : (0 : Int) ≤ (x' : Int) := by omega
          have y9 : (x' : Int) < (t.hgt.length : Int) := by omega
          have HXX : Hid (x - 1 = x') := by show _ = _; omega
          rw [HXX.out] at HL2
          have HX' := Lib.hid hx'
          clear hx'
          have HG := Lib.hid hg
          clear hg
          generalize gi t.hgt x' = hq at *
          generalize gi t.hgt x = hp at *
          by_cases hg : hp < hq
          · have g10 : decide (hp < hq) = true := by simp [hg]
            have HF := Lib.hid (HNO.out (fun hh => by
              obtain ⟨⟨⟨k1, k2⟩, ⟨k3, k4⟩, k5⟩, ⟨k6, k7, k8⟩, k9, k10⟩ := HL2.out.1 hh
              rcases k10 with k10 | k10
              · exact HG.out k10
              · omega))
            clear hg
            go_wp2_with fail
            go_quiet (fail)
            go_wp2_with fail
            go_quiet (fail)
            go_wp2_with fail
            go_ret
            exact ⟨ret_int HF.out, by repeat (first | exact HWR.out | apply bel_drewN)⟩
          have g10 : decide (hp < hq) = false := by simp; omega
          have Q10 := Lib.hid hg
          clear hg
          have HIN : Hid (InnAt t (lowF t x) x) := by
            have k4 := Q4.out
            have k5 := Q5.out
            have k6 := Q6.out
            have k7 := Q7.out
            have k8 := Q8.out
            exact HL2.out.2 ⟨⟨⟨by omega, by omega⟩, ⟨by omega, by omega⟩, by omega⟩, ⟨by omega, by omega, by omega⟩, by omega, .inr (by have := Q10.out; omega)⟩
          have HM4 : Hid (∀ q, Mod (fun k => k = lb) w3 ((wr.drewN q).setCell ⟨lb, x, none⟩ (.int .i64 (ma : Int)))) := fun q => (HMR.out.drewN q).setCell ⟨lb, x, none⟩ (fun _ => rfl) _
          have HOK2 : Hid (∀ y, n ≤ y → y < x + 1 → InnAt t (lowF t y) y) := fun y h1 h2 => by
            by_cases e : y = x
            · subst e; exact HIN.out
            · exact HOK.out y h1 (by omega)
          have HB4 : Hid (∀ q1, Blk ((wr.drewN q1).setCell ⟨lb, x, none⟩ (.int .i64 (ma : Int))) lb 3 (natV (lsZ t t.left.length (x + 1)))) := fun q1 => by
            have := blkN_set (HBR.out.drewN q1) x ma
            rw [lsZ_set hxm ma HMA.out] at this
            exact this
          go_wp2_with fail
          go_quiet (fail)
          go_wp2_with fail
          go_quiet (fail)
          go_wp2_with fail
          go_roundw
          case rel => exact ⟨x + 1, by omega, by omega, by go_num, HB4.out _, HM4.out _, HOK2.out⟩
          case measure => simp [intOf]; omega
        · obtain rfl : t.left.length = x := by omega
          have t0 : ¬ (t.left.length : Int) < (t.left.length : Int) := by omega
          clear hxm
          go_wp2_with fail
          have HINS := Lib.hid HOK.out
          have HMS := Lib.hid HMR.out
          clear c0 c1 c2 c3 c4 c5 HXR HTR HWR HBR HMR HOK t0
          obtain ⟨wo, rfl⟩ : ∃ wo : World, wo = wr := ⟨_, rfl⟩
          go_loopw [9] (fun s wr => ∃ x : Nat, x ≤ t.left.length ∧ s = .int .i64 x ∧ Mod (fun k => k = lb) w3 wr ∧ ∀ y, y < x → BelAt t y) (fun s _ => t.left.length - (intOf s).toNat)
          case atStart => exact ⟨0, Nat.zero_le _, rfl, HMS.out, fun y h => by omega⟩
          case round =>
            obtain ⟨x, hx, rfl, hm, hok⟩ := hrel
            clear HMS
            have HMR := Lib.hid hm
            have HOK := Lib.hid hok
            have HTR := Lib.hid (HT3.out.mod hm HAN.out)
            have HXR := Lib.hid (Blk.mod HX3.out hm hne)
            have HWR := Lib.hid (bel_mod HW3.out hm (fun k e => by omega))
            have c0 := TBox.c0 HXR.out
            have c1 := TBox.c1 HXR.out
            have c2 := TBox.c2 HXR.out
            have c3 := TBox.c3 HXR.out
            rw [HLO.out] at c1
            rw [HRO.out] at c2
            rw [HPO.out] at c3
            clear hm hok
            by_cases hxm : x < t.left.length
            · have t0 : (x : Int) < (t.left.length : Int) := by omega
              obtain ⟨q1, q2, q4, q5⟩ := HQ.out
              have hxp : x < t.par.length := by omega
              obtain ⟨e1, _⟩ := HTR.out.l.get (i := x) (by omega)
              obtain ⟨e2, _⟩ := HTR.out.r.get (i := x) (by omega)
              obtain ⟨e3, p3⟩ := HTR.out.p.get (i := x) (by omega)
              rw [HLO.out] at e1
              rw [HRO.out] at e2
              rw [HPO.out] at e3
              subst e1 e2 e3
              have HNO : Hid (¬ BelAt t x → 2 = kk) := fun h => by
                rw [← HK.out]
                exact (no_ok (x := x) hxp (fun ho => h ho.2.2)).symm
              have HBE : Hid (∀ p, gi t.par x = p → (BelAt t x ↔ p = -1 ∨ ((0 ≤ p ∧ p < t.par.length) ∧ (gi t.left p.toNat = x ∨ gi t.right p.toNat = x)))) := by rintro p rfl; exact Iff.rfl
              have HGO : Hid (BelAt t x → ∀ y, y < x + 1 → BelAt t y) := fun h y hy => by
                by_cases e : y = x
                · subst e; exact h
                · exact HOK.out y (by omega)
              have x3 : (x : Int) < (t.par.length : Int) := by omega
              clear q1 q2 q4 q5
              obtain ⟨p, HP⟩ : ∃ p, Hid (gi t.par x = p) := ⟨_, rfl⟩
              rw [HP.out] at p3
              have HB2 := Lib.hid (HBE.out p HP.out)
              clear HBE
              by_cases hp1 : p = -1
              · have u1 : (p == -1) = true := by simp [hp1]
                have HGG := Lib.hid (HGO.out (HB2.out.2 (.inl hp1)))
                clear hp1
                go_wp2_with fail
                go_roundw
                case rel => exact ⟨x + 1, by omega, by go_num, HMR.out, HGG.out⟩
                case measure => simp [intOf]; omega
              have u1 : (p == -1) = false := by simp [hp1]
              by_cases hp2 : p < t.lv
              · have u2 : decide (p < t.lv) = true := by simp [hp2]
                have HF := Lib.hid (HNO.out (fun hh => by
                  rcases HB2.out.1 hh with h | ⟨⟨h1, h2⟩, h3⟩
                  · exact hp1 h
                  · have hn := HN.out
                    obtain ⟨l1, l2, _⟩ := HLFS.out p.toNat (by omega)
                    rcases h3 with h3 | h3
                    · rw [l1] at h3; omega
                    · rw [l2] at h3; omega))
                clear hp1 hp2
                go_wp2_with fail
                go_ret
                exact ⟨ret_int HF.out, HWR.out⟩
              have u2 : decide (p < t.lv) = false := by simp; omega
              by_cases hp3 : (t.left.length : Int) ≤ p
              · have u3 : decide ((t.left.length : Int) ≤ p) = true := by simp [hp3]
                have HF := Lib.hid (HNO.out (fun hh => by
                  rcases HB2.out.1 hh with h | ⟨⟨h1, h2⟩, h3⟩
                  · exact hp1 h
                  · have := HQ.out.1; omega))
                clear hp1 hp2 hp3
                go_wp2_with fail
                go_ret
                exact ⟨ret_int HF.out, HWR.out⟩
              have u3 : decide ((t.left.length : Int) ≤ p) = false := by simp; omega
              obtain ⟨q, rfl⟩ := Int.eq_ofNat_of_zero_le (show 0 ≤ p by have := HN.out; omega)
              have u3x : decide (t.left.length ≤ q) = false := by simp; omega
              have hql : q < t.left.length := by omega
              have hqr : q < t.right.length := by have := HQ.out; omega
              obtain ⟨_, l1⟩ := HTR.out.l.get (i := q) hql
              obtain ⟨_, r1⟩ := HTR.out.r.get (i := q) hqr
              have y1 : (q : Int) < (t.left.length : Int) := by omega
              have y2 : (q : Int) < (t.right.length : Int) := by omega
              have y3 : (0 : Int) ≤ (q : Int) := by omega
              have HPB : Hid (0 ≤ (q : Int) ∧ (q : Int) < (t.par.length : Int)) := ⟨by omega, by have := HQ.out; omega⟩
              have HP1 := Lib.hid hp1
              rw [Int.toNat_natCast] at HB2
              clear hp1 hp2 hp3
              generalize gi t.left q = a at *
              generalize gi t.right q = b at *
              by_cases ha : a = x
              · have u4 : (a != (x : Int)) = false := by simp [ha]
                have HGG := Lib.hid (HGO.out (HB2.out.2 (.inr ⟨HPB.out, .inl ha⟩)))
                clear ha
                go_wp2_with fail
                go_roundw
                case rel => exact ⟨x + 1, by omega, by go_num, HMR.out, HGG.out⟩
                case measure => simp [intOf]; omega
              have u4 : (a != (x : Int)) = true := by simp [ha]
              by_cases hb : b = x
              · have u5 : (b != (x : Int)) = false := by simp [hb]
                have HGG := Lib.hid (HGO.out (HB2.out.2 (.inr ⟨HPB.out, .inr hb⟩)))
                clear ha hb
                go_wp2_with fail
                go_roundw
                case rel => exact ⟨x + 1, by omega, by go_num, HMR.out, HGG.out⟩
                case measure => simp [intOf]; omega
              have u5 : (b != (x : Int)) = true := by simp [hb]
              have HF := Lib.hid (HNO.out (fun hh => by
                rcases HB2.out.1 hh with h | ⟨_, h3⟩
                · exact HP1.out h
                · exact h3.elim ha hb))
              clear ha hb
              go_wp2_with fail
              go_ret
              exact ⟨ret_int HF.out, HWR.out⟩
            · obtain rfl : t.left.length = x := by omega
              have t0 : ¬ (t.left.length : Int) < (t.left.length : Int) := by omega
              have HF : Hid (0 = kk) := by
                show _ = _
                rw [← HK.out]
                have := HQ.out.1
                exact (chk_ok HN.out hn4 HL.out hnm HLFS.out (fun y h1 h2 => HINS.out y h1 (by omega)) (fun y h => HOK.out y (by omega))).symm
              clear hxm
              go_wp2_with fail
              go_ret
              exact ⟨ret_int HF.out, HWR.out⟩

end Go.Proofs.YthacjealoomioaaGreatDoor

/- recon.Labels. -/
namespace Go.Proofs.YthacjealoomioaaGreatDoor
set_option linter.unusedVariables false
set_option linter.unusedSimpArgs false
open Go.RowKit Go.Shelf
attribute [local go_sem] Oper.semAt_some

theorem Blk.ne_obj {W : World} {b L : Nat} {T : TypeId} {cs : List Value} {o : Obj} (h : Blk W b T cs) (hL : W.heap[L]? = some o) (ho : o.isCells = false) : b ≠ L := fun e => by
  unfold Blk at h
  rw [e, hL] at h
  injection h with h
  rw [h] at ho
  cases ho

theorem Src.of_take {w : World} {T : TypeId} {vo : Option Addr} {m vc n : Nat} {l : List Nat} (h : w.ownsRow 0 T 1 (.slice vo m vc) m (natV l)) (hn : n ≤ m) : Src w vo n vc 1 (natV (l.take n)) := by
  have hl : l.length = m := by have := h.1; rw [natV_len] at this; omega
  refine ⟨by rw [natV_len, List.length_take]; omega, fun ad he j u hu => ?_, fun he => ?_, natV_one _⟩
  · subst he
    rcases h.2 with ⟨h', _⟩ | ⟨g, cap, cur, h', hb, hg, _⟩
    · simp at h'
    · injection h' with e1 _ e3
      injection e1 with e1
      subst e1 e3
      refine owns_cells h j u ?_
      unfold natV at hu ⊢
      rw [List.map_take, List.getElem?_take] at hu
      split at hu
      · exact hu
      · cases hu
  · rcases h.2 with ⟨h', h0⟩ | ⟨g, cap, cur, h', _⟩
    · injection h' with _ _ e; exact ⟨by omega, by omega⟩
    · injection h' with e; rw [he] at e; cases e

end Go.Proofs.YthacjealoomioaaGreatDoor

/- recon.Leaves. -/
namespace Go.Proofs.YthacjealoomioaaGreatDoor
set_option linter.unusedVariables false
set_option linter.unusedSimpArgs false
open Go.RowKit Go.Shelf
attribute [local go_sem] Oper.semAt_some

theorem Tryz.infoBool : (Tryz.prog.info? 4).map (fun i => (i.zero, i.size, i.bytes)) = some (some (.bool false), 1, 1) := by kernel_rfl

end Go.Proofs.YthacjealoomioaaGreatDoor
