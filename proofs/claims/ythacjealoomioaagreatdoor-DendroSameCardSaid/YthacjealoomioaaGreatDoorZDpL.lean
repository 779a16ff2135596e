/- DpL. -/
import Derived.Test.YthacjealoomioaaGreatDoorZDpP
import Derived.Test.YthacjealoomioaaGreatDoorZGs
import Derived.Test.YthacjealoomioaaGreatDoorZGl
import Derived.BigQuiet
/- The law DendroParses. -/
namespace Go.Proofs.YthacjealoomioaaGreatDoor
set_option linter.unusedVariables false
set_option linter.unusedSimpArgs false
open Go.RowKit

theorem run_h64 {l : List UInt8} {t : Tr} (ht : progT (runB l 0 l rd0) = some t) : Hgt64 t := by
  suffices H : ∀ k p st, p + k = l.length → RP l p st → Hgt64 t from H l.length 0 rd0 (by omega) (RP.start l)
  intro k
  induction k with
  | zero =>
    intro p st hp h
    have hr := h.run
    have hp' : p = l.length := by omega
    subst hp'
    rw [List.drop_length, runB] at hr
    exact h.rj.prog64 (b := true) (by rw [← hr]; exact ht)
  | succ k ih =>
    intro p st hp h
    have hlt : p < l.length := by omega
    have hc : l[p]? = some l[p] := List.getElem?_eq_getElem hlt
    by_cases hf : (stepR l p (l[p].toNat : Int) st).2 = true
    · exact ih (p + 1) _ (by omega) (h.step hc hf)
    · have := (h.fail hc (Bool.eq_false_iff.2 hf) rd0).fl rfl
      rw [this] at ht
      cases ht
theorem parse_eq (l : List UInt8) : keepT l (progT (runB l 0 l rd0)) = keepT l (refT l) :=
  parse_same (.inl rfl) (fun _ h => run_h64 h) (fun _ h => refT_h64 h)

/-- The tree of no node. -/
def nlS : SA := ⟨none, 0, 0, 0⟩
def nlA : TA := ⟨nlS, nlS, nlS, nlS, nlS⟩
def nlT : Tr := ⟨0, [], [], [], [], []⟩
theorem nl_row (w : World) : InRow .i64 w none 0 0 0 [] := ⟨rfl, fun h => absurd h (by decide), fun i h => absurd h (Nat.not_lt_zero i)⟩
theorem nl_at (w : World) : TreeAt w nlA nlT := ⟨nl_row w, nl_row w, nl_row w, nl_row w, nl_row w, by decide, by decide⟩
theorem nl_64 : Hgt64 nlT := fun x hx => absurd hx (Nat.not_lt_zero x)
theorem nl_agg : nlA.agg nlT = .agg #[.int .i64 0, .slice none 0 0, .slice none 0 0, .slice none 0 0, .slice none 0 0, .slice none 0 0] := rfl

/-- What a reader returns: a tree, and what came of it. -/
def rdE (o : Option Tr) : Int := match o with | none => 15 | some _ => 0
def rdT (o : Option Tr) : Tr := match o with | none => nlT | some t => t
theorem PsPost.one {w w' : World} {o : Option Tr} {e : Ending} (h : PsPost w o e w') : ∃ A : TA, e = .returned (.tuple #[A.agg (rdT o), .int .i64 (rdE o)]) ∧ TreeAt w' A (rdT o) ∧ Hgt64 (rdT o) := by
  cases o with
  | none => exact ⟨nlA, by rw [h.bad rfl]; rfl, nl_at _, nl_64⟩
  | some t => obtain ⟨A, he, h1, _, h2, _⟩ := h.ok t rfl; exact ⟨A, he, h1, h2⟩
theorem RpPost.one {w w' : World} {o : Option Tr} {e : Ending} (h : RpPost w o e w') : ∃ A : TA, e = .returned (.tuple #[A.agg (rdT o), .int .i64 (rdE o)]) ∧ TreeAt w' A (rdT o) ∧ Hgt64 (rdT o) := by
  cases o with
  | none => exact ⟨nlA, by rw [h.bad rfl]; rfl, nl_at _, nl_64⟩
  | some t => obtain ⟨A, he, h1, h2⟩ := h.ok t rfl; exact ⟨A, he, h1, h2⟩

set_option maxHeartbeats 4000000 in
set_option maxRecDepth 100000 in
theorem dparses_law (w : World) (hE : ErrV w) (hP : Pow10 w.heap.size w) (hQ : Tab64 w) (s : ByteArray) : Calls Tryz.prog 5 #[.string s] w (RetB (.bool true) w) := by
  have HER0 := Lib.hid hE
  have HPW := Lib.hid hP
  have HQW := Lib.hid hQ
  clear hE hP hQ
  by_cases h0 : 2000 < s.size
  · have t0 : decide (2000 < s.size) = true := decide_eq_true h0
    have t0' : decide ((2000 : Int) < (s.size : Int)) = true := by simp; omega
    clear h0
    go_enter Tryz.func5, Tryz.ntmps5
    go_wp2_with fail
    with_reducible refine (dworks_ok w HER0.out HPW.out HQW.out).mono ?_
    rintro e w2 ⟨rfl, hb⟩
    have HB := Lib.hid hb
    clear hb
    go_wp2_with fail
    go_ret
    exact ⟨rfl, HB.out⟩
  · have t0 : decide (2000 < s.size) = false := decide_eq_false h0
    have t0' : decide ((2000 : Int) < (s.size : Int)) = false := by simp; omega
    have HS : Hid (s.size ≤ 2000) := by show _ ≤ _; omega
    clear h0
    go_enter Tryz.func5, Tryz.ntmps5
    go_wp2_with fail
    with_reducible refine (dparse_ok w HER0.out HPW.out s (by have := HS.out; omega)).mono ?_
    intro e w1 hps
    rw [parse_eq] at hps
    obtain ⟨o, HO⟩ : ∃ o, Hid (keepT s.data.toList (refT s.data.toList) = o) := ⟨_, rfl⟩
    rw [HO.out] at hps
    obtain ⟨A, rfl, ht, h64⟩ := hps.one
    obtain ⟨t, HT⟩ : ∃ t, Hid (rdT o = t) := ⟨_, rfl⟩
    obtain ⟨ec, HEC⟩ : ∃ ec, Hid (rdE o = ec) := ⟨_, rfl⟩
    rw [HT.out] at ht
    rw [HT.out, HEC.out]
    have HAG : Hid (A.agg t = .agg #[.int .i64 t.lv, .slice A.l.o t.left.length A.l.c, .slice A.r.o t.right.length A.r.c, .slice A.p.o t.par.length A.p.c, .slice A.h.o t.hgt.length A.h.c, .slice A.s.o t.siz.length A.s.c]) := rfl
    rw [HAG.out]
    have HBL := Lib.hid (bel_alloc w1 (.cells #[.int .i64 t.lv, .slice A.l.o t.left.length A.l.c, .slice A.r.o t.right.length A.r.c, .slice A.p.o t.par.length A.p.c, .slice A.h.o t.hgt.length A.h.c, .slice A.s.o t.siz.length A.s.c] 27))
    have HX := Lib.hid (TBox.new w1 A t)
    have HB1 := Lib.hid (bel_then hps.bel HBL.out)
    have HTA := Lib.hid (ht.below HBL.out)
    clear hps ht h64
    go_upto_region 4 with fail
    clear HBL
    generalize (w1.alloc (.cells #[.int .i64 t.lv, .slice A.l.o t.left.length A.l.c, .slice A.r.o t.right.length A.r.c, .slice A.p.o t.par.length A.p.c, .slice A.h.o t.hgt.length A.h.c, .slice A.s.o t.siz.length A.s.c] 27)) = w2 at *
    generalize w1.heap.size = xb at *
    go_wp2_with fail
    with_reducible refine (r22parse_ok w2 s (by have := HS.out; omega)).mono ?_
    intro e w3 hps
    rw [HO.out] at hps
    obtain ⟨A', rfl, ht, _⟩ := hps.one
    rw [HT.out] at ht
    rw [HT.out, HEC.out]
    have HAG' : Hid (A'.agg t = .agg #[.int .i64 t.lv, .slice A'.l.o t.left.length A'.l.c, .slice A'.r.o t.right.length A'.r.c, .slice A'.p.o t.par.length A'.p.c, .slice A'.h.o t.hgt.length A'.h.c, .slice A'.s.o t.siz.length A'.s.c]) := rfl
    rw [HAG'.out]
    have HX3 := Lib.hid (Blk.below HX.out hps.bel (Blk.lt HX.out))
    have HTA3 := Lib.hid (HTA.out.below hps.bel)
    have HBL := Lib.hid (bel_alloc w3 (.cells #[.int .i64 t.lv, .slice A'.l.o t.left.length A'.l.c, .slice A'.r.o t.right.length A'.r.c, .slice A'.p.o t.par.length A'.p.c, .slice A'.h.o t.hgt.length A'.h.c, .slice A'.s.o t.siz.length A'.s.c] 27))
    have HY := Lib.hid (TBox.new w3 A' t)
    have HX4 := Lib.hid (Blk.below HX3.out HBL.out (Blk.lt HX3.out))
    have HB4 := Lib.hid (bel_then HB1.out (bel_then hps.bel HBL.out))
    have HTA4 := Lib.hid (HTA3.out.below HBL.out)
    have HTB4 := Lib.hid (ht.below HBL.out)
    clear hps ht HX HTA HX3 HTA3 HB1
    go_upto_region 5 with fail
    clear HBL
    generalize (w3.alloc (.cells #[.int .i64 t.lv, .slice A'.l.o t.left.length A'.l.c, .slice A'.r.o t.right.length A'.r.c, .slice A'.p.o t.par.length A'.p.c, .slice A'.h.o t.hgt.length A'.h.c, .slice A'.s.o t.siz.length A'.s.c] 27)) = w4 at *
    generalize w3.heap.size = yb at *
    have v1 : (ec == ec) = true := by simp
    have c0 := TBox.c0 HX4.out
    have c1 := TBox.c1 HX4.out
    have c2 := TBox.c2 HX4.out
    have c3 := TBox.c3 HX4.out
    have c4 := TBox.c4 HX4.out
    have c5 := TBox.c5 HX4.out
    have d0 := TBox.c0 HY.out
    have d1 := TBox.c1 HY.out
    have d2 := TBox.c2 HY.out
    have d3 := TBox.c3 HY.out
    have d4 := TBox.c4 HY.out
    have d5 := TBox.c5 HY.out
    have hcon := rsametree_ok w4 A A' t HTA4.out HTB4.out
    have HG1 : A.agg t = .agg #[.int .i64 t.lv, .slice A.l.o t.left.length A.l.c, .slice A.r.o t.right.length A.r.c, .slice A.p.o t.par.length A.p.c, .slice A.h.o t.hgt.length A.h.c, .slice A.s.o t.siz.length A.s.c] := rfl
    have HG2 : A'.agg t = .agg #[.int .i64 t.lv, .slice A'.l.o t.left.length A'.l.c, .slice A'.r.o t.right.length A'.r.c, .slice A'.p.o t.par.length A'.p.c, .slice A'.h.o t.hgt.length A'.h.c, .slice A'.s.o t.siz.length A'.s.c] := rfl
    rw [HG1, HG2] at hcon
    clear HG1 HG2
    go_wp2_with fail
    with_reducible refine hcon.mono ?_
    rintro e w5 ⟨rfl, hb⟩
    have HB5 := Lib.hid (bel_then HB4.out hb)
    clear hb hcon c0 c1 c2 c3 c4 c5 d0 d1 d2 d3 d4 d5
    go_wp2_with fail
    with_reducible refine (dworks_ok w5 (HER0.out.below HB5.out) (HPW.out.up HB5.out) (HQW.out.below HB5.out)).mono ?_
    rintro e w6 ⟨rfl, hb⟩
    have HB6 := Lib.hid (bel_then HB5.out hb)
    clear hb
    go_wp2_with fail
    go_ret
    exact ⟨rfl, HB6.out⟩

end Go.Proofs.YthacjealoomioaaGreatDoor
