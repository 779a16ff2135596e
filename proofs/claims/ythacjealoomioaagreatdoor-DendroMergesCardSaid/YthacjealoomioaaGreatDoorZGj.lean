/- RcDn, RcRf, RcTp, RcLv, RcLw, RfO, RfH, RlA, RowsK. -/
import Derived.Test.YthacjealoomioaaGreatDoorZGe
import Derived.Test.YthacjealoomioaaGreatDoorZGa
import Derived.Test.YthacjealoomioaaGreatDoorZGf
import Derived.Test.YthacjealoomioaaGreatDoorZGb
import Derived.Test.YthacjealoomioaaGreatDoorZGg
import Derived.Test.YthacjealoomioaaGreatDoorZGd
import Derived.Test.YthacjealoomioaaGreatDoorZGi
import Derived.RegionTactic
import Derived.BigRegion
import Derived.Deep.RegionHeld3
/- recon.down: the nodes from the last one on. recon.Check, recon.Least. -/
namespace Go.Proofs.YthacjealoomioaaGreatDoor
set_option linter.unusedVariables false
set_option linter.unusedSimpArgs false
open Go.RowKit Go.Shelf
attribute [local go_sem] Oper.semAt_some

/-- What Check returns. -/
def chk (t : Tr) : Int := match lsL t with | none => 2 | some _ => 0
theorem chk_none {t : Tr} (h : lsL t = none) : chk t = 2 := by unfold chk; rw [h]
theorem chk_some {t : Tr} {ls : List Nat} (h : lsL t = some ls) : chk t = 0 := by unfold chk; rw [h]

set_option maxHeartbeats 1000000 in
set_option maxRecDepth 100000 in
theorem check_ok (w : World) (A : TA) (t : Tr) (ht : TreeAt w A t) : Calls Tryz.prog 26 #[A.agg t] w (RetB (.int .i64 (chk t)) w) := by
  have HT := Lib.hid ht
  have HB := Lib.hid (TBox.new w A t)
  have HW := Lib.hid (bel_alloc w (.cells #[.int .i64 t.lv, .slice A.l.o t.left.length A.l.c, .slice A.r.o t.right.length A.r.c, .slice A.p.o t.par.length A.p.c, .slice A.h.o t.hgt.length A.h.c, .slice A.s.o t.siz.length A.s.c] 27))
  have HT2 := Lib.hid (ht.below HW.out)
  have c0 := HB.out.c0
  have c1 := HB.out.c1
  have c2 := HB.out.c2
  have c3 := HB.out.c3
  have c4 := HB.out.c4
  have c5 := HB.out.c5
  clear ht
  show Calls _ _ #[.agg #[.int .i64 t.lv, .slice A.l.o t.left.length A.l.c, .slice A.r.o t.right.length A.r.c, .slice A.p.o t.par.length A.p.c, .slice A.h.o t.hgt.length A.h.c, .slice A.s.o t.siz.length A.s.c]] _ _
  go_enter Tryz.func26, Tryz.ntmps26
  go_wp2_with fail
  with_reducible refine (leasts_ok _ A t HT2.out).mono ?_
  rintro e w2 ⟨hbad, hgood, hb⟩
  have HW2 := Lib.hid (bel_then HW.out hb)
  clear hb
  cases hl : lsL t with
  | none =>
    obtain rfl := hbad hl
    have HC := Lib.hid (chk_none hl)
    clear hl hbad hgood
    go_wp2_with fail
    go_ret
    exact ⟨ret_int HC.out.symm, HW2.out⟩
  | some ls =>
    obtain ⟨lb, rfl, _⟩ := hgood ls hl
    have HC := Lib.hid (chk_some hl)
    clear hl hbad hgood
    go_wp2_with fail
    go_ret
    exact ⟨ret_int HC.out.symm, HW2.out⟩

/-- A list that is returned: new, or nil. -/
structure LnPost (w : World) (o : Option (List Nat)) (e : Ending) (w' : World) : Prop where
  bad : o = none → e = .returned (.slice none 0 0)
  ok : ∀ l, o = some l → ∃ v, e = .returned v ∧ w'.ownsRow 0 3 1 v l.length (natV l) ∧ ∀ k, v.ownBlock = some k → w.heap.size ≤ k
  bel : Below w.heap.size w w'

theorem owns_blk2 {w : World} {b : Nat} {T : TypeId} {l : List Nat} (h : Blk w b T (natV l)) (hl : l.length ≤ 1000000) : w.ownsRow 0 T 1 (.slice (some ⟨b, 0, none⟩) l.length l.length) l.length (natV l) := by
  have := owns_blk h (by rw [natV_len]; omega)
  rw [natV_len] at this
  exact this

theorem ls_le {t : Tr} {ls : List Nat} (h : lsL t = some ls) : ls.length = t.par.length ∧ ls.length ≤ 8192 := by
  obtain ⟨⟨⟨h1, h2, h3, h4⟩, _⟩, e, _⟩ := lsL_iff.1 h
  rw [e, lowF_len]
  exact ⟨rfl, by omega⟩

set_option maxHeartbeats 1000000 in
set_option maxRecDepth 100000 in
theorem least_ok (w : World) (A : TA) (t : Tr) (ht : TreeAt w A t) : Calls Tryz.prog 55 #[A.agg t] w (LnPost w (lsL t)) := by
  have HT := Lib.hid ht
  have HB := Lib.hid (TBox.new w A t)
  have HW := Lib.hid (bel_alloc w (.cells #[.int .i64 t.lv, .slice A.l.o t.left.length A.l.c, .slice A.r.o t.right.length A.r.c, .slice A.p.o t.par.length A.p.c, .slice A.h.o t.hgt.length A.h.c, .slice A.s.o t.siz.length A.s.c] 27))
  have HT2 := Lib.hid (ht.below HW.out)
  have c0 := HB.out.c0
  have c1 := HB.out.c1
  have c2 := HB.out.c2
  have c3 := HB.out.c3
  have c4 := HB.out.c4
  have c5 := HB.out.c5
  clear ht
  show Calls _ _ #[.agg #[.int .i64 t.lv, .slice A.l.o t.left.length A.l.c, .slice A.r.o t.right.length A.r.c, .slice A.p.o t.par.length A.p.c, .slice A.h.o t.hgt.length A.h.c, .slice A.s.o t.siz.length A.s.c]] _ _
  go_enter Tryz.func55, Tryz.ntmps55
  go_wp2_with fail
  with_reducible refine (leasts_ok _ A t HT2.out).mono ?_
  rintro e w2 ⟨hbad, hgood, hb⟩
  have HS := Lib.hid HW.out.size
  have HW2 := Lib.hid (bel_then HW.out hb)
  clear hb
  cases hl : lsL t with
  | none =>
    obtain rfl := hbad hl
    have HL0 := Lib.hid hl
    clear hl hbad hgood
    go_wp2_with fail
    go_ret
    exact ⟨fun _ => rfl, (fun l e => by (rw [HL0.out] at e; cases e)), HW2.out⟩
  | some ls =>
    obtain ⟨lb, rfl, hb, hn⟩ := hgood ls hl
    have HBK := Lib.hid hb
    have HL := Lib.hid (ls_le hl)
    have HL0 := Lib.hid hl
    have HN := Lib.hid hn
    clear hl hbad hgood hb hn
    go_wp2_with fail
    go_ret
    refine ⟨(fun e => by (rw [HL0.out] at e; cases e)), fun l e => ?_, HW2.out⟩
    rw [HL0.out] at e
    injection e with e
    subst e
    refine ⟨.slice (some ⟨lb, 0, none⟩) ls.length ls.length, rfl, owns_blk2 HBK.out (by have := HL.out; omega), fun k hk => ?_⟩
    have e : lb = k := by simpa [Value.ownBlock] using hk
    have h1 := HN.out
    have h2 := HS.out
    omega

end Go.Proofs.YthacjealoomioaaGreatDoor

/- Reference of layer 18: root, least, below, Above. -/
namespace Go.Proofs.YthacjealoomioaaGreatDoor
set_option linter.unusedVariables false
set_option linter.unusedSimpArgs false
open Go.RowKit

/-- The least leaf below x is a. -/
inductive Low (t : Tr) (n m : Nat) : Nat → Nat → Prop
  | leaf {x : Nat} : x < n → Low t n m x x
  | node {x l r a b : Nat} : n ≤ x → x < m → gi t.left x = l → gi t.right x = r → Low t n m l a → Low t n m r b → Low t n m x (min a b)

end Go.Proofs.YthacjealoomioaaGreatDoor

/- recon.Top, recon.Roots. -/
namespace Go.Proofs.YthacjealoomioaaGreatDoor
set_option linter.unusedVariables false
set_option linter.unusedSimpArgs false
open Go.RowKit

/-- What Top returns. -/
def topV (t : Tr) (leaf th : Int) : Int × Int :=
  if lsL t = none then (0, 2) else if leaf < 0 ∨ t.lv ≤ leaf then (0, 3) else (((ab t t.par.length th leaf.toNat : Nat) : Int), 0)

theorem tv_of {t : Tr} {ls : List Nat} (h : lsL t = some ls) : ∃ n, t.lv = ((n : Nat) : Int) ∧ TV t n t.par.length ls := by
  obtain ⟨n, m, hv, _⟩ := TV.of_ls h
  obtain rfl : t.par.length = m := hv.pl
  exact ⟨n, hv.lv, hv⟩

/-- The closure of Roots. -/
def lsC (ls : List Nat) (x y : Nat) : Int := cmpI ((ls.getD x 0 : Nat) : Int) ((ls.getD y 0 : Nat) : Int)

theorem lsC_neg (ls : List Nat) (x y : Nat) : lsC ls x y < 0 ↔ ls.getD x 0 < ls.getD y 0 := by
  unfold lsC cmpI
  by_cases h1 : ((ls.getD x 0 : Nat) : Int) < ((ls.getD y 0 : Nat) : Int)
  · rw [if_pos h1]; constructor
    · intro _; omega
    · intro _; decide
  · rw [if_neg h1]; split
    · constructor
      · intro h; omega
      · intro h; omega
    · constructor
      · intro h; omega
      · intro h; omega

set_option maxRecDepth 100000 in
set_option maxHeartbeats 1000000 in
theorem rootf_ok (w : World) (lp lb m : Nat) (hm : m ≤ 8192) (hc : w.cell? ⟨lp, 0, none⟩ = some (.slice (some ⟨lb, 0, none⟩) m m)) (ls : List Nat) (hb : Blk w lb 3 (natV ls)) (hl : ls.length = m) (x y : Nat) (hx : x < m) (hy : y < m) :
    Calls Tryz.prog 88 #[.int .i64 x, .int .i64 y, .pointer (some ⟨lp, 0, none⟩)] w (fun e w' => e = .returned (.int .i64 (lsC ls x y)) ∧ ∃ q os', w' = Go.Sort.grow (w.drewN q) os') := by
  have cx := blkN hb (i := x) (by omega)
  have cy := blkN hb (i := y) (by omega)
  have HO : Hid (cmpI ((ls.getD x 0 : Nat) : Int) ((ls.getD y 0 : Nat) : Int) = lsC ls x y) := rfl
  generalize ls.getD x 0 = a at *
  generalize ls.getD y 0 = b at *
  have HH : Hid (∃ q os', w.drew = Go.Sort.grow (w.drewN q) os') := ⟨1, #[], by simp [Go.Sort.grow]; rfl⟩
  have t1 : (x : Int) < (m : Int) := by omega
  have t2 : (y : Int) < (m : Int) := by omega
  have t3 : (0 : Int) ≤ (x : Int) := by omega
  have t4 : (0 : Int) ≤ (y : Int) := by omega
  clear hb hl
  go_enter Tryz.func88, Tryz.ntmps88
  go_wp2_with fail
  refine region_tail 9 (by kernel_rfl) (by kernel_rfl) ?_
  intro w2 hw2
  rw [← hw2] at HH
  have d0 : w2.cell? ⟨lp, 0, none⟩ = some (.slice (some ⟨lb, 0, none⟩) m m) := by rw [hw2]; exact hc
  have d1 : w2.cell? ⟨lb, x, none⟩ = some (.int .i64 a) := by rw [hw2]; exact cx
  have d2 : w2.cell? ⟨lb, y, none⟩ = some (.int .i64 b) := by rw [hw2]; exact cy
  clear hw2 hc cx cy
  simp only [List.take_succ_cons, List.take_zero, List.drop_succ_cons, List.drop_zero]
  repeat still_step
  still_call (Ret.still (comparei a b _))
  refine wpStill_nil ?_
  clear d0 d1 d2
  go_wp2_with fail
  go_ret
  exact ⟨ret_int HO.out, HH.out⟩

/-- The roots among the first i nodes. -/
def topsTo (t : Tr) (i : Nat) : List Nat := (List.range i).filter fun x => decide (gi t.par x < 0)
theorem topsTo_succ (t : Tr) (i : Nat) : topsTo t (i + 1) = if gi t.par i < 0 then topsTo t i ++ [i] else topsTo t i := by
  unfold topsTo
  rw [List.range_succ, List.filter_append]
  by_cases h : gi t.par i < 0
  · rw [if_pos h]; simp [h]
  · rw [if_neg h]; simp [h]
theorem topsTo_len (t : Tr) (i : Nat) : (topsTo t i).length ≤ i := by
  have := List.length_filter_le (fun x => decide (gi t.par x < 0)) (List.range i)
  rw [List.length_range] at this
  exact this

/-- What Roots returns. -/
def rootsO (t : Tr) : Option (List Nat) := match lsL t with | none => none | some ls => some (rootsL t t.lv.toNat t.par.length ls)
theorem rootsO_none {t : Tr} (h : lsL t = none) : rootsO t = none := by unfold rootsO; rw [h]
theorem rootsO_some {t : Tr} {ls : List Nat} (h : lsL t = some ls) : rootsO t = some (rootsL t t.lv.toNat t.par.length ls) := by unfold rootsO; rw [h]

set_option maxHeartbeats 4000000 in
set_option maxRecDepth 100000 in
theorem roots_ok (w : World) (A : TA) (t : Tr) (ht : TreeAt w A t) : Calls Tryz.prog 58 #[A.agg t] w (LnPost w (rootsO t)) := by
  have HT := Lib.hid ht
  have HB := Lib.hid (TBox.new w A t)
  have HW := Lib.hid (bel_alloc w (.cells #[.int .i64 t.lv, .slice A.l.o t.left.length A.l.c, .slice A.r.o t.right.length A.r.c, .slice A.p.o t.par.length A.p.c, .slice A.h.o t.hgt.length A.h.c, .slice A.s.o t.siz.length A.s.c] 27))
  have HT2 := Lib.hid (ht.below HW.out)
  have c0 := HB.out.c0
  have c1 := HB.out.c1
  have c2 := HB.out.c2
  have c3 := HB.out.c3
  have c4 := HB.out.c4
  have c5 := HB.out.c5
  clear ht
  show Calls _ _ #[.agg #[.int .i64 t.lv, .slice A.l.o t.left.length A.l.c, .slice A.r.o t.right.length A.r.c, .slice A.p.o t.par.length A.p.c, .slice A.h.o t.hgt.length A.h.c, .slice A.s.o t.siz.length A.s.c]] _ _
  generalize hpo : A.p.o = po at *
  have HPO := Lib.hid hpo
  clear hpo
  have eg : ∀ args w, (callFunc 88 args).run Tryz.prog w = .ok (.enter 88 args) w := enters_of Tryz.func88 (by kernel_rfl) rfl
  have HEG := Lib.hid eg
  clear eg
  go_enter Tryz.func58, Tryz.ntmps58
  go_wp2_with fail
  have hcon := leasts_ok _ A t HT2.out
  rw [TA.agg, HPO.out] at hcon
  with_reducible refine hcon.mono ?_
  rintro e w2 ⟨hbad, hgood, hb⟩
  have HW2 := Lib.hid (bel_then HW.out hb)
  have HB2 := Lib.hid (Blk.below HB.out hb (Blk.lt HB.out))
  have HT3 := Lib.hid (HT2.out.below hb)
  have HS := Lib.hid HW.out.size
  clear hb hcon c0 c1 c2 c3 c4 c5
  cases hl : lsL t with
  | none =>
    obtain rfl := hbad hl
    have HC := Lib.hid (rootsO_none hl)
    have HW3 := Lib.hid (HW2.out.alloc HW2.out.size (.cells #[.slice none 0 0] 24))
    clear hl hbad hgood
    go_wp2_with fail
    go_ret
    exact ⟨fun _ => rfl, (fun l e => by (rw [HC.out] at e; cases e)), HW3.out⟩
  | some ls =>
    obtain ⟨lb, rfl, hlb, hlbn⟩ := hgood ls hl
    obtain ⟨n, hn, hv⟩ := tv_of hl
    have HC : Hid (rootsO t = some (rootsL t n t.par.length ls)) := by show _ = _; rw [rootsO_some hl, hn, Int.toNat_natCast]
    have HV := Lib.hid hv
    have hn4 := hv.hn
    have hm2 := hv.two
    have HLL := Lib.hid hv.lsl
    have HLB := Lib.hid (hlb.alloc (.cells #[.slice (some ⟨lb, 0, none⟩) ls.length ls.length] 24))
    have HLP := Lib.hid (Blk.new w2 24 [.slice (some ⟨lb, 0, none⟩) ls.length ls.length])
    have HW3 := Lib.hid (HW2.out.alloc HW2.out.size (.cells #[.slice (some ⟨lb, 0, none⟩) ls.length ls.length] 24))
    have HB3 := Lib.hid (Blk.alloc HB2.out (.cells #[.slice (some ⟨lb, 0, none⟩) ls.length ls.length] 24))
    have HT4 := Lib.hid (HT3.out.below (bel_alloc w2 (.cells #[.slice (some ⟨lb, 0, none⟩) ls.length ls.length] 24)))
    have HLN := Lib.hid hlbn
    have b3 := TBox.c3 HB3.out
    rw [HPO.out] at b3
    clear hl hbad hgood hv hn hlb hlbn HB HB2 HT2 HT3
    go_wp2_with fail
    clear b3
    have hlp : w.heap.size ≤ w2.heap.size := HW2.out.size
    have hsz3 : w2.heap.size < (w2.alloc (.cells #[.slice (some ⟨lb, 0, none⟩) ls.length ls.length] 24)).heap.size := by simp
    have hlb3 := HLB.out.lt
    generalize w2.alloc (.cells #[.slice (some ⟨lb, 0, none⟩) ls.length ls.length] 24) = w3 at *
    generalize w2.heap.size = lp at *
    go_loopw [5, 18] (fun v s wr => ∃ i : Nat, i ≤ t.par.length ∧ s = .int .i64 i ∧ wr.ownsRow 0 3 1 v (topsTo t i).length (natV (topsTo t i)) ∧ (∀ x, v.ownBlock = some x → w3.heap.size ≤ x) ∧ Below w3.heap.size w3 wr) (fun _ s _ => t.par.length - (intOf s).toNat)
    case atStart => exact ⟨0, Nat.zero_le _, rfl, World.ownsRow_nil _ _ _ _, fun x hx => (by cases hx), Below.refl _ _⟩
    case round =>
      obtain ⟨i, hi, rfl, hv, hvn, hb⟩ := hrel
      have HVR := Lib.hid hv
      have HVN := Lib.hid hvn
      have HBR := Lib.hid hb
      have HT5 := Lib.hid (HT4.out.below hb)
      have HWR := Lib.hid (bel_then HW3.out hb)
      clear hv hvn hb
      by_cases him : i < t.par.length
      · obtain ⟨e1, p1⟩ := HT5.out.p.get (i := i) him
        rw [HPO.out] at e1
        subst e1
        have HTS := Lib.hid (topsTo_succ t i)
        have htl := topsTo_len t i
        generalize gi t.par i = p at *
        have t1 : (i : Int) < (t.par.length : Int) := by omega
        have t2 : (0 : Int) ≤ (i : Int) := by omega
        generalize hT : topsTo t i = T at *
        generalize hT' : topsTo t (i + 1) = T' at *
        have HT' := Lib.hid hT'
        clear hT hT'
        by_cases hp : p < 0
        · have t3 : decide (p < 0) = true := by simp [hp]
          have HTT : Hid (T' = T ++ [i]) := HTS.out.trans (if_pos hp)
          have HOW := Lib.hid (HVR.out.alloc (.cells #[.int .i64 i] 3))
          have HNW := Lib.hid (news_new wr 3 [.int .i64 i])
          clear hp
          go_wp2_with (at_builtin; apply keepIt)
          apply Lib.hid
          refine wpList_appendB 3 (.int .i64 0) 1 8 Tryz.underlying24 Tryz.infoInt rfl (by decide) _ T.length _ rfl HOW.out ⟨wr.heap.size, 0, none⟩ 1 1 [.int .i64 i] rfl rfl HNW.out (by simp [Value.oneCell']) (by unfold maxLen; omega) (by omega) ?_
          intro v6 w6 ho6 hg6 hn6
          have hwr := HBR.out.size
          have HB6 : Hid (Below w3.heap.size w3 w6) := (HBR.out.alloc (by omega) _).trans (grown_below hg6 (fun k hk => HVN.out k hk) (by simp; omega))
          have HV6 : Hid (w6.ownsRow 0 3 1 v6 T'.length (natV T')) := by
            show World.ownsRow _ _ _ _ _ _ _
            rw [HTT.out, List.length_append]
            have e : natV (T ++ [i]) = natV T ++ [.int .i64 (i : Int)] := by simp [natV]
            rw [e]
            exact ho6
          have HN6 : Hid (∀ x, v6.ownBlock = some x → w3.heap.size ≤ x) := fun x hx => by
            rcases hn6 x hx with e | e
            · exact HVN.out x e
            · simp at e; omega
          clear ho6 hg6 hn6
          go_wp2_with fail
          go_roundw
          case rel => exact ⟨i + 1, by omega, by go_num, by rw [HT'.out]; exact HV6.out, HN6.out, HB6.out⟩
          case measure => simp [intOf]; omega
        · have t3 : decide (p < 0) = false := by simp; omega
          have HTT : Hid (T' = T) := HTS.out.trans (if_neg hp)
          clear hp
          go_wp2_with fail
          go_roundw
          case rel => exact ⟨i + 1, by omega, by go_num, by rw [HT'.out, HTT.out]; exact HVR.out, HVN.out, HBR.out⟩
          case measure => simp [intOf]; omega
      · obtain rfl : i = t.par.length := by omega
        have hP := roots_perm HV.out
        have hlen := hP.length_eq
        have hTl := topsTo_len t t.par.length
        have hTT : topsTo t t.par.length = tops t t.par.length := rfl
        have HRP : Hid ((rootsL t n t.par.length ls).Perm (topsTo t t.par.length)) := hP
        have HRS := Lib.hid (roots_sorted HV.out)
        have hRl : (topsTo t t.par.length).length = (rootsL t n t.par.length ls).length := hlen.symm
        have HMEM : Hid (∀ x, x ∈ topsTo t t.par.length → x < t.par.length ∧ gi t.par x < 0) := fun x hx => by
          have := List.mem_filter.1 hx
          rw [List.mem_range, decide_eq_true_eq] at this
          exact this
        clear hP hlen hTT
        have HRL := Lib.hid hRl
        generalize rootsL t n t.par.length ls = RL at *
        generalize topsTo t t.par.length = T at *
        by_cases h0 : T.length = 0
        · obtain ⟨ao, cap, rfl⟩ := owns_slice HVR.out
          rw [h0]
          have HH0 : Hid (RL = []) := List.eq_nil_of_length_eq_zero (by omega)
          have HT0 : Hid (T = []) := List.eq_nil_of_length_eq_zero h0
          clear h0 hRl
          go_wp2_with fail
          with_reducible refine (sortN_none wr ao cap _).mono ?_
          rintro e w6 ⟨rfl, rfl⟩
          go_wp2_with fail
          go_ret
          refine ⟨(fun e => by (rw [HC.out] at e; cases e)), fun l e => ?_, HWR.out⟩
          rw [HC.out] at e
          injection e with e
          subst e
          have hv := HVR.out
          rw [HT0.out] at hv
          rw [HH0.out]
          refine ⟨.slice ao 0 cap, rfl, hv, fun k hk => ?_⟩
          have := HVN.out k (by cases ao with | none => cases hk | some a => simpa [Value.ownBlock] using hk)
          have := HW3.out.size
          omega
        · obtain ⟨g, cap, rfl, _, _, _, _, _⟩ := owns_form HVR.out (by omega)
          have hgn := HVN.out g rfl
          have HGN := Lib.hid hgn
          have HRN : Hid (∀ x, x ∈ T → rt t t.par.length (ls.getD x 0) = x) := fun x hx => by
            obtain ⟨h1, h2⟩ := HMEM.out x hx
            rw [rt_ls HV.out x h1, rt_root HV.out h1 h2]
          have hcon := (sortN_ok wr g T.length cap T HVR.out rfl (by omega) (by omega) (fun x y => ls.getD x 0 < ls.getD y 0) (fun a => Nat.lt_irrefl _) (fun _ _ _ => Nat.lt_trans)
            (fun x hx y hy h1 h2 => by
              have e : ls.getD x 0 = ls.getD y 0 := by omega
              rw [← HRN.out x hx, ← HRN.out y hy, e])
            (lsC ls) (fun x _ y _ => lsC_neg ls x y) 88 #[.pointer (some ⟨lp, 0, none⟩)] HEG.out
            (fun W hW x hx y hy => rootf_ok W lp lb ls.length (by have := HLL.out; omega) (((HLP.out.below HBR.out (by omega)).mod hW (fun e => by have := HGN.out; omega)).cell (i := 0) rfl) ls ((HLB.out.below HBR.out (by omega)).mod hW (fun e => by have := HGN.out; omega)) rfl x y
              (by have := (HMEM.out x hx).1; have := HLL.out; omega) (by have := (HMEM.out y hy).1; have := HLL.out; omega))
            RL HRP.out HRS.out)
          clear h0 hRl hgn
          go_wp2_with fail
          with_reducible refine hcon.mono ?_
          rintro e w6 ⟨rfl, ho6, hm6⟩
          have HO6 := Lib.hid ho6
          have HW6 := Lib.hid (bel_mod HWR.out hm6 (fun x e => by have := HGN.out; have := HW3.out.size; omega))
          clear ho6 hm6 hcon
          go_wp2_with fail
          go_ret
          refine ⟨(fun e => by (rw [HC.out] at e; cases e)), fun l e => ?_, HW6.out⟩
          rw [HC.out] at e
          injection e with e
          subst e
          have hv := HO6.out
          rw [HRL.out] at hv
          rw [HRL.out]
          refine ⟨.slice (some ⟨g, 0, none⟩) RL.length cap, rfl, hv, fun k hk => ?_⟩
          have := HVN.out k (by simpa [Value.ownBlock] using hk)
          have := HW3.out.size
          omega

end Go.Proofs.YthacjealoomioaaGreatDoor

/- recon.Labels. -/
namespace Go.Proofs.YthacjealoomioaaGreatDoor
set_option linter.unusedVariables false
set_option linter.unusedSimpArgs false
open Go.RowKit Go.Shelf
attribute [local go_sem] Oper.semAt_some

theorem Blk.ne_obj {W : World} {b L : Nat} {T : TypeId} {cs : List Value} {o : Obj} (h : Blk W b T cs) (hL : W.heap[L]? = some o) (ho : o.isCells = false) : b ≠ L := fun e => by
  unfold Blk at h
  rw [e, hL] at h
  injection h with h
  rw [h] at ho
  cases ho

theorem Src.of_take {w : World} {T : TypeId} {vo : Option Addr} {m vc n : Nat} {l : List Nat} (h : w.ownsRow 0 T 1 (.slice vo m vc) m (natV l)) (hn : n ≤ m) : Src w vo n vc 1 (natV (l.take n)) := by
  have hl : l.length = m := by have := h.1; rw [natV_len] at this; omega
  refine ⟨by rw [natV_len, List.length_take]; omega, fun ad he j u hu => ?_, fun he => ?_, natV_one _⟩
  · subst he
    rcases h.2 with ⟨h', _⟩ | ⟨g, cap, cur, h', hb, hg, _⟩
    · simp at h'
    · injection h' with e1 _ e3
      injection e1 with e1
      subst e1 e3
      refine owns_cells h j u ?_
      unfold natV at hu ⊢
      rw [List.map_take, List.getElem?_take] at hu
      split at hu
      · exact hu
      · cases hu
  · rcases h.2 with ⟨h', h0⟩ | ⟨g, cap, cur, h', _⟩
    · injection h' with _ _ e; exact ⟨by omega, by omega⟩
    · injection h' with e; rw [he] at e; cases e

end Go.Proofs.YthacjealoomioaaGreatDoor

/- recon.Leaves. -/
namespace Go.Proofs.YthacjealoomioaaGreatDoor
set_option linter.unusedVariables false
set_option linter.unusedSimpArgs false
open Go.RowKit Go.Shelf
attribute [local go_sem] Oper.semAt_some

/-- What Leaves returns. -/
def leavesO (t : Tr) (node : Int) : Option (List Nat) :=
  match lsL t with | none => none | some ls => if node < 0 ∨ (t.par.length : Int) ≤ node then none else some (leavesL t t.lv.toNat t.par.length node.toNat)
theorem leavesO_some {t : Tr} {node : Int} {ls : List Nat} (h : lsL t = some ls) (h2 : ¬ (node < 0 ∨ (t.par.length : Int) ≤ node)) : leavesO t node = some (leavesL t t.lv.toNat t.par.length node.toNat) := by
  unfold leavesO; rw [h]; exact if_neg h2

end Go.Proofs.YthacjealoomioaaGreatDoor

/- Reference of layer 17: Order. -/
namespace Go.Proofs.YthacjealoomioaaGreatDoor
set_option linter.unusedVariables false
set_option linter.unusedSimpArgs false
open Go.RowKit

theorem natV_snoc (l : List Nat) (x : Nat) : natV (l ++ [x]) = natV l ++ [.int .i64 (x : Int)] := by simp [natV]

end Go.Proofs.YthacjealoomioaaGreatDoor

/- Reference of layer 17: grown, Forest. -/
namespace Go.Proofs.YthacjealoomioaaGreatDoor
set_option linter.unusedVariables false
set_option linter.unusedSimpArgs false
open Go.RowKit

theorem own_rowN {w : World} {T : TypeId} {v : Value} {n : Nat} {l : List Nat} (h : w.ownsRow 0 T 1 v n (natV l)) (hl : l.length = n) : ∃ ao cap b, v = .slice ao n cap ∧ InRow .i64 w ao n b 0 (nI l) ∧ ∀ k, v.ownBlock = some k → k = b := by
  rw [natV_nI] at h
  subst hl
  have h' : w.ownsRow 0 T 1 v (nI l).length ((nI l).map fun x => .int .i64 x) := by rw [nI_len]; exact h
  have := owns_row h'
  rw [nI_len] at this
  exact this

end Go.Proofs.YthacjealoomioaaGreatDoor

/- The statements' comparisons of layer 18: equal lists, equal trees. -/
namespace Go.Proofs.YthacjealoomioaaGreatDoor
set_option linter.unusedVariables false
set_option linter.unusedSimpArgs false
open Go.RowKit

set_option maxHeartbeats 2000000 in
theorem rsame_ok (w : World) (ao ao' : Option Addr) (len cap cap' b b' off off' : Nat) (z : List Int) (hu : InRow .i64 w ao len b off z) (hv : InRow .i64 w ao' len b' off' z) (hl : len ≤ 9223372036854775807) :
    Calls Tryz.prog 33 #[.slice ao len cap, .slice ao' len cap'] w (RetB (.bool true) w) := by
  have HC := Lib.hid hu
  have HD := Lib.hid hv
  clear hu hv
  have t0 : ((len : Int) != (len : Int)) = false := by simp
  go_enter Tryz.func33, Tryz.ntmps33
  go_wp2_with fail
  go_loopw [5] (fun s wr => ∃ k : Nat, k ≤ len ∧ s = .int .i64 k ∧ Mod (fun _ => False) w wr) (fun s _ => len - (intOf s).toNat)
  case atStart => exact ⟨0, Nat.zero_le _, rfl, Mod.refl _ _⟩
  case round =>
    obtain ⟨k, hk, rfl, hm⟩ := hrel
    have HM := Lib.hid hm
    by_cases hkn : k < len
    · obtain rfl := HC.out.adr (by omega)
      obtain rfl := HD.out.adr (by omega)
      have c0 := (HC.out.mod hm (fun _ h => h)).cell k hkn
      have d0 := (HD.out.mod hm (fun _ h => h)).cell k hkn
      generalize z.getD k 0 = x at c0 d0
      clear hm
      have t1 : (k : Int) < (len : Int) := by omega
      have t2 : (x != x) = false := by simp
      go_wp2_with fail
      go_quiet (fail)
      go_wp2_with fail
      go_roundw
      case rel => exact ⟨k + 1, by omega, by go_num, HM.out.drewN _⟩
      case measure => simp [intOf]; omega
    · obtain rfl : k = len := by omega
      clear hm
      go_wp2_with fail
      go_ret
      exact ⟨rfl, HM.out.below (Nat.le_refl _) (fun _ h => h.elim)⟩

/-- What was appended or returned, as a row. -/
theorem LnPost.row {w w' : World} {o : Option (List Nat)} {e : Ending} (h : LnPost w o e w') : ∃ ao cap b, e = .returned (.slice ao (o.getD []).length cap) ∧ InRow .i64 w' ao (o.getD []).length b 0 (nI (o.getD [])) := by
  cases o with
  | none => exact ⟨none, 0, 0, h.bad rfl, ⟨rfl, fun h => absurd h (by simp), fun i hi => absurd hi (by simp)⟩⟩
  | some l =>
    obtain ⟨v, rfl, ho, _⟩ := h.ok l rfl
    obtain ⟨ao, cap, b, rfl, hr, _⟩ := own_rowN ho rfl
    exact ⟨ao, cap, b, rfl, hr⟩

theorem roots_le {t : Tr} : ((rootsO t).getD []).length ≤ 8192 := by
  cases h : lsL t with
  | none => rw [rootsO_none h]; simp
  | some ls =>
    rw [rootsO_some h]
    obtain ⟨n, hn, hv⟩ := tv_of h
    have := hv.hn
    show (rootsL _ _ _ _).length ≤ _
    unfold rootsL
    rw [List.length_map]
    have h2 := List.length_filter_le (fun v => decide (ls.getD (rt t t.par.length v) 0 = v)) (List.range t.lv.toNat)
    rw [List.length_range] at h2
    omega
end Go.Proofs.YthacjealoomioaaGreatDoor

/- Slices of numbers whose headers lie in one block. -/
namespace Go.Proofs.YthacjealoomioaaGreatDoor
set_option linter.unusedVariables false
set_option linter.unusedSimpArgs false
open Go.RowKit

theorem Tryz.infoSli : (Tryz.prog.info? 24).map (fun i => (i.zero, i.size, i.bytes)) = some (some (.slice none 0 0), 1, 24) := by kernel_rfl

/-- k slices of numbers in the block sb. -/
structure RowsK (w : World) (sb k : Nat) (V : Nat → Value) (L : Nat → List Nat) : Prop where
  blk : Blk w sb 24 ((List.range k).map V)
  row : ∀ s, s < k → w.ownsRow 0 3 1 (V s) (L s).length (natV (L s))
  ne : ∀ s, s < k → ∀ g, (V s).ownBlock = some g → g ≠ sb
  dis : ∀ s t, s < k → t < k → s ≠ t → ∀ g, (V s).ownBlock = some g → (V t).ownBlock ≠ some g

theorem RowsK.mod {F : Nat → Prop} {w w' : World} {sb k : Nat} {V : Nat → Value} {L : Nat → List Nat} (h : RowsK w sb k V L) (hm : Mod F w w') (h1 : ¬ F sb) (h2 : ∀ s, s < k → ∀ g, (V s).ownBlock = some g → ¬ F g) : RowsK w' sb k V L :=
  ⟨h.blk.mod hm h1, fun s hs => owns_mod (h.row s hs) hm (h2 s hs), h.ne, h.dis⟩
theorem RowsK.below {w w' : World} {sb k : Nat} {V : Nat → Value} {L : Nat → List Nat} (h : RowsK w sb k V L) (hb : Below w.heap.size w w') : RowsK w' sb k V L :=
  h.mod (Mod.of_below (F := fun _ => False) hb) (fun h => h) (fun _ _ _ _ h => h)

theorem RowsK.cell {w : World} {sb k : Nat} {V : Nat → Value} {L : Nat → List Nat} (h : RowsK w sb k V L) {s : Nat} (hs : s < k) : w.cell? ⟨sb, s, none⟩ = some (V s) :=
  h.blk.cell (by rw [List.getElem?_map, List.getElem?_range hs]; rfl)

theorem RowsK.made {w : World} {sb k : Nat} (h : Blk w sb 24 (List.replicate k (.slice none 0 0))) {L : Nat → List Nat} (hl : ∀ s, s < k → L s = []) : RowsK w sb k (fun _ => .slice none 0 0) L := by
  refine ⟨?_, fun s hs => by rw [hl s hs]; exact World.ownsRow_nil w _ _ _, fun s _ g hg => (by cases hg), fun s t _ _ _ g hg => (by cases hg)⟩
  rw [show (List.range k).map (fun _ => Value.slice none 0 0) = List.replicate k (.slice none 0 0) by rw [List.map_const', List.length_range]]
  exact h

theorem RowsK.put {w w' : World} {sb k : Nat} {V : Nat → Value} {L L' : Nat → List Nat} (h : RowsK w sb k V L) {s : Nat} (hs : s < k) (hm : Mod (fun x => (V s).ownBlock = some x) w w') {v : Value}
    (ho : w'.ownsRow 0 3 1 v (L' s).length (natV (L' s))) (hL : ∀ t, t < k → t ≠ s → L' t = L t) (hv : ∀ g, v.ownBlock = some g → (V s).ownBlock = some g ∨ w.heap.size ≤ g) :
    RowsK (w'.setCell ⟨sb, s, none⟩ v) sb k (fun t => if t = s then v else V t) L' := by
  have hlt := h.blk.lt
  have hvne : ∀ g, v.ownBlock = some g → g ≠ sb := fun g hg => by
    rcases hv g hg with e | e
    · exact h.ne s hs g e
    · omega
  have hvo : ∀ t, t < k → t ≠ s → ∀ g, v.ownBlock = some g → (V t).ownBlock ≠ some g := fun t ht hne g hg e => by
    rcases hv g hg with e' | e'
    · exact h.dis s t hs ht (fun e => hne e.symm) g e' e
    · have := ((h.row t ht).lt g e).2
      omega
  refine ⟨?_, fun t ht => ?_, fun t ht g hg => ?_, fun t u ht hu hne g hg hg' => ?_⟩
  · have := (h.blk.mod hm (fun e => h.ne s hs sb e rfl)).set s v
    have e : ((List.range k).map V).set s v = (List.range k).map fun t => if t = s then v else V t := by
      apply List.ext_getElem?
      intro i
      by_cases hi : i = s
      · subst hi
        rw [List.getElem?_set_self (by simp; omega), List.getElem?_map, List.getElem?_range hs]
        simp
      · rw [List.getElem?_set_ne (by omega), List.getElem?_map, List.getElem?_map]
        by_cases hik : i < k
        · rw [List.getElem?_range hik]; simp [hi]
        · rw [List.getElem?_eq_none (by simp; omega)]; rfl
    rw [e] at this
    exact this
  · by_cases e : t = s
    · simp only [if_pos e]
      rw [e]
      exact owns_mod ho ((Mod.refl (fun x => x = sb) w').setCell _ (fun _ => rfl) _) (fun x hx => hvne x hx)
    · simp only [if_neg e]
      rw [hL t ht e]
      exact owns_mod (owns_mod (h.row t ht) hm (fun x hx e' => h.dis s t hs ht (fun e'' => e e''.symm) x e' hx)) ((Mod.refl (fun x => x = sb) w').setCell _ (fun _ => rfl) _) (fun x hx => h.ne t ht x hx)
  · by_cases e : t = s
    · simp only [if_pos e] at hg
      exact hvne g hg
    · simp only [if_neg e] at hg
      exact h.ne t ht g hg
  · by_cases e : t = s
    · simp only [if_pos e] at hg
      simp only [if_neg (fun e' : u = s => hne (e.trans e'.symm))] at hg'
      exact hvo u hu (fun e' => hne (e.trans e'.symm)) g hg hg'
    · simp only [if_neg e] at hg
      by_cases e2 : u = s
      · simp only [if_pos e2] at hg'
        exact hvo t ht e g hg' hg
      · simp only [if_neg e2] at hg'
        exact h.dis t u ht hu hne g hg hg'

end Go.Proofs.YthacjealoomioaaGreatDoor
