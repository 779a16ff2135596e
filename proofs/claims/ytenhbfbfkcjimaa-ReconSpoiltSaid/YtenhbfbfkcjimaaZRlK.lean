/- The statement ReconSpoilt: the walk. -/
import Derived.Test.YtenhbfbfkcjimaaZRlH
namespace Go.Proofs.Ytenhbfbfkcjimaa
set_option linter.unusedVariables false
set_option linter.unusedSimpArgs false
open Go.RowKit

theorem egF_w {n : Nat} {F : Nat → Nat → Nat} : ∀ i j, j < (egF n F i).length → -5 ≤ wI (egF n F i) j ∧ wI (egF n F i) j ≤ 10
  | 0, j, h => by simp [egF] at h
  | i + 1, j, h => by
    have ih := egF_w (n := n) (F := F) i
    rw [egF] at h ⊢
    split at h
    · rename_i hc
      rw [if_pos hc]
      rw [List.length_append, List.length_singleton] at h
      by_cases hj : j < (egF n F i).length
      · have e : wI (egF n F i ++ [⟨((F i 0 % n : Nat) : Int), ((F i 1 % n : Nat) : Int), ((F i 2 % 16 : Nat) : Int) - 5⟩]) j = wI (egF n F i) j := by
          unfold wI EA; rw [List.getD_eq_getElem?_getD, List.getElem?_append_left hj, List.getD_eq_getElem?_getD]
        rw [e]; exact ih j hj
      · have hje : j = (egF n F i).length := by omega
        have e : wI (egF n F i ++ [⟨((F i 0 % n : Nat) : Int), ((F i 1 % n : Nat) : Int), ((F i 2 % 16 : Nat) : Int) - 5⟩]) j = ((F i 2 % 16 : Nat) : Int) - 5 := by
          unfold wI EA; rw [List.getD_eq_getElem?_getD, hje, List.getElem?_append_right (Nat.le_refl _), Nat.sub_self]; rfl
        rw [e]; omega
    · rename_i hc
      rw [if_neg hc]
      exact ih j h

/-- The numbers of the tree of a graph are small. -/
structure SmallT (n m : Nat) (T : Tr) : Prop where
  l : ∀ x, x < m → -1 ≤ gi T.left x ∧ gi T.left x ≤ 100000
  r : ∀ x, x < m → -1 ≤ gi T.right x ∧ gi T.right x ≤ 100000
  p : ∀ x, x < m → -1 ≤ gi T.par x ∧ gi T.par x ≤ 100000
  h : ∀ x, x < m → -5 ≤ gi T.hgt x ∧ gi T.hgt x ≤ 10
  s : ∀ x, x < m → -1 ≤ gi T.siz x ∧ gi T.siz x ≤ 100000

theorem GTree.small {n m : Nat} {L : List Ed} {T : Tr} {ls : List Nat} (h : GTree n m L T ls) (hw : ∀ j, j < L.length → -5 ≤ wI L j ∧ wI L j ≤ 10) : SmallT n m T := by
  have h4 := h.tv.hn
  have h2 := h.two
  refine ⟨fun x hx => ?_, fun x hx => ?_, fun x hx => ?_, fun x hx => ?_, fun x hx => ?_⟩
  · by_cases hn : x < n
    · have := (h.tv.leaf x hn).1; omega
    · have := (h.tv.inn x (by omega) hx).1.1; omega
  · by_cases hn : x < n
    · have := (h.tv.leaf x hn).2.1; omega
    · have := (h.tv.inn x (by omega) hx).1.2.1; omega
  · rcases h.tv.par hx with e | ⟨p, e, _, _, e2, _⟩ <;> omega
  · by_cases hn : x < n
    · have := (h.tv.leaf x hn).2.2.1; omega
    · obtain ⟨i, rfl⟩ : ∃ i, x = n + i := ⟨x - n, by omega⟩
      have e := h.meq
      have hi : i < FN n L := by omega
      rw [h.eq, bdL_hgt h.g hi]
      exact hw _ (for_lt hi)
  · rw [lv_size h.tv x hx]
    have := lv_len_le T n m x
    omega

def DrewAny (w wx : World) : Prop := ∃ q, wx = w.drewN q

/-- The tree by value after a change. -/
abbrev kA (lv : Int) (m lb rb pb hb sb : Nat) : Value := .agg #[.int .i64 lv, .slice (some ⟨lb, 0, none⟩) m m, .slice (some ⟨rb, 0, none⟩) m m, .slice (some ⟨pb, 0, none⟩) m m, .slice (some ⟨hb, 0, none⟩) m m, .slice (some ⟨sb, 0, none⟩) m m]
structure LenT (m : Nat) (T : Tr) : Prop where
  l : T.left.length = m
  r : T.right.length = m
  p : T.par.length = m
  h : T.hgt.length = m
  s : T.siz.length = m
theorem LenT.agg {m : Nat} {T : Tr} (h : LenT m T) (lb rb pb hb sb : Nat) : TA.agg (hA lb rb pb hb sb m) T = kA T.lv m lb rb pb hb sb := by
  show Value.agg #[.int .i64 T.lv, .slice (some ⟨lb, 0, none⟩) T.left.length m, .slice (some ⟨rb, 0, none⟩) T.right.length m, .slice (some ⟨pb, 0, none⟩) T.par.length m, .slice (some ⟨hb, 0, none⟩) T.hgt.length m, .slice (some ⟨sb, 0, none⟩) T.siz.length m] = _
  rw [h.l, h.r, h.p, h.h, h.s]

section
variable {m : Nat} {T : Tr} (hl : LenT m T) {lb rb pb hb sb : Nat} {W : World} (ht : TreeAt W (hA lb rb pb hb sb m) T)
include hl ht
theorem kcheck_ok : Calls Try.prog 16 #[kA T.lv m lb rb pb hb sb] W (RetB (.int .i64 (chk T)) W) := by
  have := check_ok W _ T ht
  rw [hl.agg] at this
  exact this
theorem kroots_ok (hn : lsL T = none) : Calls Try.prog 17 #[kA T.lv m lb rb pb hb sb] W (RetB (.slice none 0 0) W) := by
  have := roots_ok W _ T ht
  rw [hl.agg] at this
  exact this.mono fun _ _ h => ⟨h.bad (rootsO_none hn), h.bel⟩
theorem klabels_ok (hn : lsL T = none) : Calls Try.prog 18 #[kA T.lv m lb rb pb hb sb, .int .i64 0] W (RetB (.tuple #[.slice none 0 0, .int .i64 2]) W) := by
  have := labels_ok W _ T ht 0
  rw [hl.agg] at this
  exact this.mono fun _ _ h => ⟨h.bad (labsO_none hn), h.bel⟩
end

/-- The tree and its box after a change: it is not valid any more. -/
structure Spoil (w W : World) (xb m lb rb pb hb sb : Nat) (T : Tr) : Prop where
  len : LenT m T
  tree : TreeAt W (hA lb rb pb hb sb m) T
  box : Blk W xb 27 [.int .i64 T.lv, .slice (some ⟨lb, 0, none⟩) m m, .slice (some ⟨rb, 0, none⟩) m m, .slice (some ⟨pb, 0, none⟩) m m, .slice (some ⟨hb, 0, none⟩) m m, .slice (some ⟨sb, 0, none⟩) m m]
  bel : Below w.heap.size w W

theorem Spoil.below {w W W' : World} {xb m lb rb pb hb sb : Nat} {T : Tr} (h : Spoil w W xb m lb rb pb hb sb T) (hb2 : Below W.heap.size W W') : Spoil w W' xb m lb rb pb hb sb T :=
  ⟨h.len, h.tree.below hb2, h.box.below hb2 h.box.lt, bel_then h.bel hb2⟩
theorem Spoil.six {w W : World} {xb m lb rb pb hb sb : Nat} {T : Tr} (h : Spoil w W xb m lb rb pb hb sb T) : W.cell? ⟨xb, 0, none⟩ = some (.int .i64 T.lv) ∧ W.cell? ⟨xb, 1, none⟩ = some (.slice (some ⟨lb, 0, none⟩) m m) ∧ W.cell? ⟨xb, 2, none⟩ = some (.slice (some ⟨rb, 0, none⟩) m m) ∧ W.cell? ⟨xb, 3, none⟩ = some (.slice (some ⟨pb, 0, none⟩) m m) ∧
    W.cell? ⟨xb, 4, none⟩ = some (.slice (some ⟨hb, 0, none⟩) m m) ∧ W.cell? ⟨xb, 5, none⟩ = some (.slice (some ⟨sb, 0, none⟩) m m) :=
  ⟨h.box.cell (i := 0) rfl, h.box.cell (i := 1) rfl, h.box.cell (i := 2) rfl, h.box.cell (i := 3) rfl, h.box.cell (i := 4) rfl, h.box.cell (i := 5) rfl⟩

theorem BdT.hA {w : World} {tb lb rb pb hb sb ub n m : Nat} {t : Tr} (h : BdT w ⟨tb, lb, rb, pb, hb, sb, ub⟩ n m t) (hlv : -9223372036854775808 ≤ t.lv ∧ t.lv ≤ 9223372036854775807) (hm : m ≤ 9223372036854775807) : TreeAt w (hA lb rb pb hb sb m) t := h.tree hlv hm
theorem BdT.lenT {w : World} {B : BB} {n m : Nat} {t : Tr} (h : BdT w B n m t) : LenT m t := ⟨h.ll, h.rl, h.pl, h.hl, h.sl⟩

set_option maxHeartbeats 60000000 in
set_option maxRecDepth 100000 in
theorem spoilt_law (w : World) (sz : Nat) (hsz : sz ≤ 255) (ao : Option Addr) (len cap b off : Nat) (F : Nat → Nat → Nat) (hr : BRow w ao len b off F) (wt : Nat) (hwt : wt ≤ 255) (wh : Nat) (hwh : wh ≤ 65535) (by0 : Int) (hby : -9223372036854775808 ≤ by0 ∧ by0 ≤ 9223372036854775807) :
    Calls Try.prog 6 #[.int .u8 sz, .slice ao len cap, .int .u8 wt, .int .u16 wh, .int .i64 by0] w (RetB (.bool true) w) := by
  have hby1 := hby.1
  have hby2 := hby.2
  clear hby
  have HR := Lib.hid hr
  clear hr
  go_enter Try.func6, Try.ntmps6
  go_wp2_with fail
  with_reducible refine (edges_ok w sz hsz ao len cap b off F HR.out).mono ?_
  rintro e w2 ⟨v, rfl, hnr⟩
  have hn50 : 1 ≤ 1 + sz % 50 ∧ 1 + sz % 50 ≤ 50 := by omega
  have hg := egF_ok hn50 F len
  have hwid := egF_w (n := 1 + sz % 50) (F := F) len
  obtain ⟨L, hL⟩ : ∃ L, egF (1 + sz % 50) F len = L := ⟨_, rfl⟩
  rw [hL] at hnr hg hwid
  clear hL
  generalize 1 + sz % 50 = n at *
  obtain ⟨a1, k1, rfl, hcon⟩ := build_g w2 n v L hg hnr.own
  have HNR := Lib.hid hnr
  have HB2 := Lib.hid hnr.bel
  have hgt0 := gtree hg
  have HCON := Lib.hid hcon
  clear hnr hcon hg HR
  go_wp2_with fail
  with_reducible refine (HCON.out).mono ?_
  rintro e w3 ⟨⟨B, rfl, hbt, hbm⟩, hb⟩
  clear HCON
  obtain ⟨T, hT⟩ : ∃ T, bdL n L = T := ⟨_, rfl⟩
  obtain ⟨m, hm⟩ : ∃ m, n + FN n L = m := ⟨_, rfl⟩
  obtain ⟨ls, hls⟩ : ∃ ls, lsB n L (FN n L) = ls := ⟨_, rfl⟩
  rw [hT, hm, hls] at hgt0
  rw [hT, hm] at hbt
  rw [hT, hm]
  have HGT := Lib.hid hgt0
  have HSM := Lib.hid (hgt0.small hwid)
  clear hwid
  have hm2 := hgt0.two
  have hnm := hgt0.tv.nm
  have hn4 := hgt0.tv.hn
  obtain ⟨tb0, lb, rb, pb, hb', sb, ub⟩ := B
  have ht3 : TreeAt w3 (hA lb rb pb hb' sb m) T := hbt.tree (by rw [hgt0.tv.lv]; omega) (by omega)
  have HBT := Lib.hid hbt
  have HBT2W : Hid (w2.heap.size ≤ w3.heap.size) := hb.size
  have HBM := Lib.hid hbm
  clear hT hm hls hbt hbm
  rw [show TA.agg (BB.ta ⟨tb0, lb, rb, pb, hb', sb, ub⟩ m) T = .agg #[.int .i64 (n : Int), .slice (some ⟨lb, 0, none⟩) m m, .slice (some ⟨rb, 0, none⟩) m m, .slice (some ⟨pb, 0, none⟩) m m, .slice (some ⟨hb', 0, none⟩) m m, .slice (some ⟨sb, 0, none⟩) m m] from hgt0.agg _]
  have HBX := Lib.hid (bel_alloc w3 (.cells #[.int .i64 (n : Int), .slice (some ⟨lb, 0, none⟩) m m, .slice (some ⟨rb, 0, none⟩) m m, .slice (some ⟨pb, 0, none⟩) m m, .slice (some ⟨hb', 0, none⟩) m m, .slice (some ⟨sb, 0, none⟩) m m] 27))
  have HX : Hid (HBox (w3.alloc (.cells #[.int .i64 (n : Int), .slice (some ⟨lb, 0, none⟩) m m, .slice (some ⟨rb, 0, none⟩) m m, .slice (some ⟨pb, 0, none⟩) m m, .slice (some ⟨hb', 0, none⟩) m m, .slice (some ⟨sb, 0, none⟩) m m] 27)) w3.heap.size n m lb rb pb hb' sb) := Blk.new _ _ _
  have HT := Lib.hid (ht3.below HBX.out)
  have HB3 := Lib.hid (bel_then HB2.out (bel_then hb HBX.out))
  clear ht3 hb hgt0
  have hN1 := HBT.out.l.lt
  have hN2 := HBT.out.r.lt
  have hN3 := HBT.out.p.lt
  have hN4 := HBT.out.h.lt
  have hN5 := HBT.out.s.lt
  have HXN : Hid (lb ≠ w3.heap.size ∧ rb ≠ w3.heap.size ∧ pb ≠ w3.heap.size ∧ hb' ≠ w3.heap.size ∧ sb ≠ w3.heap.size) := by
    show _ ∧ _
    simp only at hN1 hN2 hN3 hN4 hN5
    omega
  have HBN : Hid (w.heap.size ≤ w3.heap.size ∧ w.heap.size ≤ lb ∧ w.heap.size ≤ rb ∧ w.heap.size ≤ pb ∧ w.heap.size ≤ hb' ∧ w.heap.size ≤ sb) := by
    have h1 := HB2.out.size
    have h2 := HBT2W.out
    have b1 := HBM.out lb (.inr (.inl rfl))
    have b2 := HBM.out rb (.inr (.inr (.inl rfl)))
    have b3 := HBM.out pb (.inr (.inr (.inr (.inl rfl))))
    have b4 := HBM.out hb' (.inr (.inr (.inr (.inr (.inl rfl)))))
    have b5 := HBM.out sb (.inr (.inr (.inr (.inr (.inr (.inl rfl))))))
    show _ ∧ _
    omega
  clear hN1 hN2 hN3 hN4 hN5 HBM
  have HBT2 := Lib.hid (HBT.out.below HBX.out)
  obtain ⟨c0, c1, c2, c3, c4, c5⟩ := HX.out.six
  have tm : ((m : Int) != (m : Int)) = false := by simp
  have tm0 : ((m : Int) == 0) = false := by simp; omega
  have u1 : (0 : Int) ≤ (wh : Int) := by omega
  have u2 : (wh : Int) ≤ 65535 := by omega
  have u3 : (0 : Int) < (m : Int) := by omega
  go_upto_if 82 with fail
  have hx : wh % m < m := Nat.mod_lt _ (by omega)
  have hcast : (wh : Int) % (m : Int) = ((wh % m : Nat) : Int) := by omega
  simp only [hcast]
  generalize wh % m = x at *
  clear hcast u1 u2 u3 tm tm0 HBX
  generalize Value.tuple #[Value.agg #[Value.int .i64 (n : Int), Value.slice (some ⟨lb, 0, none⟩) m m, Value.slice (some ⟨rb, 0, none⟩) m m, Value.slice (some ⟨pb, 0, none⟩) m m, Value.slice (some ⟨hb', 0, none⟩) m m, Value.slice (some ⟨sb, 0, none⟩) m m], Value.int .i64 0] = V1
  generalize Value.agg #[Value.int .i64 (n : Int), Value.slice (some ⟨lb, 0, none⟩) m m, Value.slice (some ⟨rb, 0, none⟩) m m, Value.slice (some ⟨pb, 0, none⟩) m m, Value.slice (some ⟨hb', 0, none⟩) m m, Value.slice (some ⟨sb, 0, none⟩) m m] = V2
  generalize w3.heap.size = xb at *
  generalize (w3.alloc (.cells #[.int .i64 (n : Int), .slice (some ⟨lb, 0, none⟩) m m, .slice (some ⟨rb, 0, none⟩) m m, .slice (some ⟨pb, 0, none⟩) m m, .slice (some ⟨hb', 0, none⟩) m m, .slice (some ⟨sb, 0, none⟩) m m] 27)) = W at *
  obtain ⟨bv, hbv⟩ : ∃ bv, (if by0 = 0 then (1 : Int) else by0) = bv := ⟨_, rfl⟩
  have hb0 : bv ≠ 0 := by rw [← hbv]; split <;> omega
  have hbl : -9223372036854775808 ≤ bv := by rw [← hbv]; split <;> omega
  have hbu : bv ≤ 9223372036854775807 := by rw [← hbv]; split <;> omega
  have HBV := Lib.hid hbv
  clear hbv
  go_cut [4] (fun s wx => s = .int .i64 bv ∧ W = wx)
  case first =>
    by_cases hz : by0 = 0
    · have tz : (by0 == 0) = true := by simp [hz]
      obtain rfl : 1 = bv := by rw [← HBV.out]; exact (if_pos hz).symm
      clear hz
      go_wp2_with fail
      go_meet
      exact ⟨rfl, rfl⟩
    · have tz : (by0 == 0) = false := by simp [hz]
      obtain rfl : by0 = bv := by rw [← HBV.out]; exact (if_neg hz).symm
      clear hz
      go_wp2_with fail
      go_meet
      exact ⟨rfl, rfl⟩
  case rest =>
    obtain ⟨rfl, rfl⟩ := hcut
    clear HBV hby1 hby2
    have h6 : (wt : Int) % 6 = 0 ∨ (wt : Int) % 6 = 1 ∨ (wt : Int) % 6 = 2 ∨ (wt : Int) % 6 = 3 ∨ (wt : Int) % 6 = 4 ∨ (wt : Int) % 6 = 5 := by omega
    have v1 : (0 : Int) ≤ (wt : Int) := by omega
    have v2 : (wt : Int) ≤ 255 := by omega
    have t1 : (x : Int) < (m : Int) := by omega
    have t2 : (0 : Int) ≤ (x : Int) := by omega
    rcases h6 with h6 | h6 | h6 | h6 | h6 | h6
    · as_aux_lemma =>
        obtain ⟨o, ho⟩ : ∃ o, gi T.left x = o := ⟨_, rfl⟩
        have e1 := blkIV HBT2.out.l (i := x) (by rw [HBT2.out.ll]; exact hx)
        have f1 := HBT2.out.l.free x
        have hob := HSM.out.l x hx
        rw [ho] at e1 hob
        obtain ⟨v, hv⟩ : ∃ v, wrap64 (o + bv) = v := ⟨_, rfl⟩
        have hvo : v ≠ o := by rw [← hv, ← IntWalk.i64_left]; exact wrap_ne (by omega) ⟨hbl, hbu⟩ hb0
        have hvne : v ≠ gi T.left x := by rw [ho]; exact hvo
        have hbt := HBT2.out.setL x v
        have HNO : Hid (lsL { T with left := T.left.set x v } = none) := spoil_left HGT.out.tv hx hvne
        have hne : lb ≠ xb := HXN.out.1
        have hne' : xb ≠ lb := fun e => hne e.symm
        have HSP : Hid (Spoil w (W.setCell ⟨lb, x, none⟩ (.int .i64 v)) xb m lb rb pb hb' sb { T with left := T.left.set x v }) :=
          ⟨hbt.lenT, hbt.hA (by show _ ≤ T.lv ∧ T.lv ≤ _; rw [HGT.out.tv.lv]; omega) (by omega), by have := Blk.other HX.out ⟨lb, x, none⟩ (.int .i64 v) hne'; rw [← HGT.out.tv.lv] at this; exact this, bel_set HB3.out HBN.out.2.1⟩
        generalize hT2 : ({ T with left := T.left.set x v } : Tr) = T2 at *
        have hT2lv : T2.lv = (n : Int) := by rw [← hT2]; exact HGT.out.tv.lv
        rw [← hT2lv] at c0
        clear hT2 hT2lv ho hvo hvne hbt hob hx
        go_wp2_with fail
        generalize W.setCell ⟨lb, x, none⟩ (.int .i64 v) = W8 at *
        with_reducible refine (klabels_ok HSP.out.len HSP.out.tree HNO.out).mono ?_
        rintro e w9 ⟨rfl, hb⟩
        have HS9 := Lib.hid (HSP.out.below hb)
        clear hb HSP c0 c1 c2 c3 c4 c5
        obtain ⟨c0, c1, c2, c3, c4, c5⟩ := HS9.out.six
        go_wp2_with fail
        with_reducible refine (kcheck_ok HS9.out.len HS9.out.tree).mono ?_
        rintro e w10 ⟨rfl, hb⟩
        rw [chk_none HNO.out]
        have HS10 := Lib.hid (HS9.out.below hb)
        clear hb HS9 c0 c1 c2 c3 c4 c5
        obtain ⟨c0, c1, c2, c3, c4, c5⟩ := HS10.out.six
        go_wp2_with fail
        with_reducible refine (kroots_ok HS10.out.len HS10.out.tree HNO.out).mono ?_
        rintro e w11 ⟨rfl, hb⟩
        have HS11 := Lib.hid (HS10.out.below hb)
        clear hb HS10 c0 c1 c2 c3 c4 c5
        go_wp2_with fail
        with_reducible refine (rworks_ok w11).mono ?_
        rintro e w12 ⟨rfl, hb⟩
        have HF := Lib.hid (bel_then HS11.out.bel hb)
        clear hb
        go_wp2_with fail
        go_ret
        exact ⟨rfl, HF.out⟩
    · as_aux_lemma =>
        obtain ⟨o, ho⟩ : ∃ o, gi T.right x = o := ⟨_, rfl⟩
        have e1 := blkIV HBT2.out.r (i := x) (by rw [HBT2.out.rl]; exact hx)
        have f1 := HBT2.out.r.free x
        have hob := HSM.out.r x hx
        rw [ho] at e1 hob
        obtain ⟨v, hv⟩ : ∃ v, wrap64 (o + bv) = v := ⟨_, rfl⟩
        have hvo : v ≠ o := by rw [← hv, ← IntWalk.i64_left]; exact wrap_ne (by omega) ⟨hbl, hbu⟩ hb0
        have hvne : v ≠ gi T.right x := by rw [ho]; exact hvo
        have hbt := HBT2.out.setR x v
        have HNO : Hid (lsL { T with right := T.right.set x v } = none) := spoil_right HGT.out.tv hx hvne
        have hne : rb ≠ xb := HXN.out.2.1
        have hne' : xb ≠ rb := fun e => hne e.symm
        have HSP : Hid (Spoil w (W.setCell ⟨rb, x, none⟩ (.int .i64 v)) xb m lb rb pb hb' sb { T with right := T.right.set x v }) :=
          ⟨hbt.lenT, hbt.hA (by show _ ≤ T.lv ∧ T.lv ≤ _; rw [HGT.out.tv.lv]; omega) (by omega), by have := Blk.other HX.out ⟨rb, x, none⟩ (.int .i64 v) hne'; rw [← HGT.out.tv.lv] at this; exact this, bel_set HB3.out HBN.out.2.2.1⟩
        generalize hT2 : ({ T with right := T.right.set x v } : Tr) = T2 at *
        have hT2lv : T2.lv = (n : Int) := by rw [← hT2]; exact HGT.out.tv.lv
        rw [← hT2lv] at c0
        clear hT2 hT2lv ho hvo hvne hbt hob hx
        go_wp2_with fail
        generalize W.setCell ⟨rb, x, none⟩ (.int .i64 v) = W8 at *
        with_reducible refine (klabels_ok HSP.out.len HSP.out.tree HNO.out).mono ?_
        rintro e w9 ⟨rfl, hb⟩
        have HS9 := Lib.hid (HSP.out.below hb)
        clear hb HSP c0 c1 c2 c3 c4 c5
        obtain ⟨c0, c1, c2, c3, c4, c5⟩ := HS9.out.six
        go_wp2_with fail
        with_reducible refine (kcheck_ok HS9.out.len HS9.out.tree).mono ?_
        rintro e w10 ⟨rfl, hb⟩
        rw [chk_none HNO.out]
        have HS10 := Lib.hid (HS9.out.below hb)
        clear hb HS9 c0 c1 c2 c3 c4 c5
        obtain ⟨c0, c1, c2, c3, c4, c5⟩ := HS10.out.six
        go_wp2_with fail
        with_reducible refine (kroots_ok HS10.out.len HS10.out.tree HNO.out).mono ?_
        rintro e w11 ⟨rfl, hb⟩
        have HS11 := Lib.hid (HS10.out.below hb)
        clear hb HS10 c0 c1 c2 c3 c4 c5
        go_wp2_with fail
        with_reducible refine (rworks_ok w11).mono ?_
        rintro e w12 ⟨rfl, hb⟩
        have HF := Lib.hid (bel_then HS11.out.bel hb)
        clear hb
        go_wp2_with fail
        go_ret
        exact ⟨rfl, HF.out⟩
    · as_aux_lemma =>
        obtain ⟨o, ho⟩ : ∃ o, gi T.par x = o := ⟨_, rfl⟩
        have e1 := blkIV HBT2.out.p (i := x) (by rw [HBT2.out.pl]; exact hx)
        have f1 := HBT2.out.p.free x
        have hob := HSM.out.p x hx
        rw [ho] at e1 hob
        obtain ⟨v, hv⟩ : ∃ v, wrap64 (o + bv) = v := ⟨_, rfl⟩
        have hvo : v ≠ o := by rw [← hv, ← IntWalk.i64_left]; exact wrap_ne (by omega) ⟨hbl, hbu⟩ hb0
        have hvne : v ≠ gi T.par x := by rw [ho]; exact hvo
        have hbt := HBT2.out.setP x v
        have HNO : Hid (lsL { T with par := T.par.set x v } = none) := spoil_par HGT.out.tv hx hvne
        have hne : pb ≠ xb := HXN.out.2.2.1
        have hne' : xb ≠ pb := fun e => hne e.symm
        have HSP : Hid (Spoil w (W.setCell ⟨pb, x, none⟩ (.int .i64 v)) xb m lb rb pb hb' sb { T with par := T.par.set x v }) :=
          ⟨hbt.lenT, hbt.hA (by show _ ≤ T.lv ∧ T.lv ≤ _; rw [HGT.out.tv.lv]; omega) (by omega), by have := Blk.other HX.out ⟨pb, x, none⟩ (.int .i64 v) hne'; rw [← HGT.out.tv.lv] at this; exact this, bel_set HB3.out HBN.out.2.2.2.1⟩
        generalize hT2 : ({ T with par := T.par.set x v } : Tr) = T2 at *
        have hT2lv : T2.lv = (n : Int) := by rw [← hT2]; exact HGT.out.tv.lv
        rw [← hT2lv] at c0
        clear hT2 hT2lv ho hvo hvne hbt hob hx
        go_wp2_with fail
        generalize W.setCell ⟨pb, x, none⟩ (.int .i64 v) = W8 at *
        with_reducible refine (klabels_ok HSP.out.len HSP.out.tree HNO.out).mono ?_
        rintro e w9 ⟨rfl, hb⟩
        have HS9 := Lib.hid (HSP.out.below hb)
        clear hb HSP c0 c1 c2 c3 c4 c5
        obtain ⟨c0, c1, c2, c3, c4, c5⟩ := HS9.out.six
        go_wp2_with fail
        with_reducible refine (kcheck_ok HS9.out.len HS9.out.tree).mono ?_
        rintro e w10 ⟨rfl, hb⟩
        rw [chk_none HNO.out]
        have HS10 := Lib.hid (HS9.out.below hb)
        clear hb HS9 c0 c1 c2 c3 c4 c5
        obtain ⟨c0, c1, c2, c3, c4, c5⟩ := HS10.out.six
        go_wp2_with fail
        with_reducible refine (kroots_ok HS10.out.len HS10.out.tree HNO.out).mono ?_
        rintro e w11 ⟨rfl, hb⟩
        have HS11 := Lib.hid (HS10.out.below hb)
        clear hb HS10 c0 c1 c2 c3 c4 c5
        go_wp2_with fail
        with_reducible refine (rworks_ok w11).mono ?_
        rintro e w12 ⟨rfl, hb⟩
        have HF := Lib.hid (bel_then HS11.out.bel hb)
        clear hb
        go_wp2_with fail
        go_ret
        exact ⟨rfl, HF.out⟩
    · as_aux_lemma =>
        obtain ⟨o, ho⟩ : ∃ o, gi T.siz x = o := ⟨_, rfl⟩
        have e1 := blkIV HBT2.out.s (i := x) (by rw [HBT2.out.sl]; exact hx)
        have f1 := HBT2.out.s.free x
        have hob := HSM.out.s x hx
        rw [ho] at e1 hob
        obtain ⟨v, hv⟩ : ∃ v, wrap64 (o + bv) = v := ⟨_, rfl⟩
        have hvo : v ≠ o := by rw [← hv, ← IntWalk.i64_left]; exact wrap_ne (by omega) ⟨hbl, hbu⟩ hb0
        have hvne : v ≠ gi T.siz x := by rw [ho]; exact hvo
        have hbt := HBT2.out.setS x v
        have HNO : Hid (lsL { T with siz := T.siz.set x v } = none) := spoil_siz HGT.out.tv hx hvne
        have hne : sb ≠ xb := HXN.out.2.2.2.2
        have hne' : xb ≠ sb := fun e => hne e.symm
        have HSP : Hid (Spoil w (W.setCell ⟨sb, x, none⟩ (.int .i64 v)) xb m lb rb pb hb' sb { T with siz := T.siz.set x v }) :=
          ⟨hbt.lenT, hbt.hA (by show _ ≤ T.lv ∧ T.lv ≤ _; rw [HGT.out.tv.lv]; omega) (by omega), by have := Blk.other HX.out ⟨sb, x, none⟩ (.int .i64 v) hne'; rw [← HGT.out.tv.lv] at this; exact this, bel_set HB3.out HBN.out.2.2.2.2.2⟩
        generalize hT2 : ({ T with siz := T.siz.set x v } : Tr) = T2 at *
        have hT2lv : T2.lv = (n : Int) := by rw [← hT2]; exact HGT.out.tv.lv
        rw [← hT2lv] at c0
        clear hT2 hT2lv ho hvo hvne hbt hob hx
        go_wp2_with fail
        generalize W.setCell ⟨sb, x, none⟩ (.int .i64 v) = W8 at *
        with_reducible refine (klabels_ok HSP.out.len HSP.out.tree HNO.out).mono ?_
        rintro e w9 ⟨rfl, hb⟩
        have HS9 := Lib.hid (HSP.out.below hb)
        clear hb HSP c0 c1 c2 c3 c4 c5
        obtain ⟨c0, c1, c2, c3, c4, c5⟩ := HS9.out.six
        go_wp2_with fail
        with_reducible refine (kcheck_ok HS9.out.len HS9.out.tree).mono ?_
        rintro e w10 ⟨rfl, hb⟩
        rw [chk_none HNO.out]
        have HS10 := Lib.hid (HS9.out.below hb)
        clear hb HS9 c0 c1 c2 c3 c4 c5
        obtain ⟨c0, c1, c2, c3, c4, c5⟩ := HS10.out.six
        go_wp2_with fail
        with_reducible refine (kroots_ok HS10.out.len HS10.out.tree HNO.out).mono ?_
        rintro e w11 ⟨rfl, hb⟩
        have HS11 := Lib.hid (HS10.out.below hb)
        clear hb HS10 c0 c1 c2 c3 c4 c5
        go_wp2_with fail
        with_reducible refine (rworks_ok w11).mono ?_
        rintro e w12 ⟨rfl, hb⟩
        have HF := Lib.hid (bel_then HS11.out.bel hb)
        clear hb
        go_wp2_with fail
        go_ret
        exact ⟨rfl, HF.out⟩
    · as_aux_lemma =>
        have f1 := Blk.free HX.out 0
        obtain ⟨v, hv⟩ : ∃ v, wrap64 ((n : Int) + bv) = v := ⟨_, rfl⟩
        have hvo : v ≠ (n : Int) := by rw [← hv, ← IntWalk.i64_left]; exact wrap_ne (by omega) ⟨hbl, hbu⟩ hb0
        have hvb : -9223372036854775808 ≤ v ∧ v ≤ 9223372036854775807 := by rw [← hv]; unfold wrap64; omega
        have HNO : Hid (lsL { T with lv := v } = none) := spoil_lv HGT.out.tv (by rw [HGT.out.tv.lv]; exact hvo)
        have hlt : LenT m { T with lv := v } := ⟨HBT2.out.ll, HBT2.out.rl, HBT2.out.pl, HBT2.out.hl, HBT2.out.sl⟩
        have htr : TreeAt W (hA lb rb pb hb' sb m) { T with lv := v } := ⟨HT.out.l, HT.out.r, HT.out.p, HT.out.h, HT.out.s, HT.out.ln, hvb⟩
        have HSP : Hid (Spoil w (W.setCell ⟨xb, 0, none⟩ (.int .i64 v)) xb m lb rb pb hb' sb { T with lv := v }) :=
          ⟨hlt, htr.mod (F := fun k => k = xb) ((Mod.refl _ W).setAt rfl) (fun k hk e => by
              rcases hk with ⟨_, q⟩ | ⟨_, q⟩ | ⟨_, q⟩ | ⟨_, q⟩ | ⟨_, q⟩
              · exact HXN.out.1 (q.symm.trans e)
              · exact HXN.out.2.1 (q.symm.trans e)
              · exact HXN.out.2.2.1 (q.symm.trans e)
              · exact HXN.out.2.2.2.1 (q.symm.trans e)
              · exact HXN.out.2.2.2.2 (q.symm.trans e)), Blk.set HX.out 0 (.int .i64 v), bel_set HB3.out HBN.out.1⟩
        generalize hT2 : ({ T with lv := v } : Tr) = T2 at *
        have hT2lv : T2.lv = v := by rw [← hT2]
        have HLV2 := Lib.hid hT2lv
        clear hT2 hT2lv hvo hvb hlt htr hx
        go_wp2_with fail
        generalize W.setCell ⟨xb, 0, none⟩ (.int .i64 v) = W8 at *
        rw [← HLV2.out]
        with_reducible refine (klabels_ok HSP.out.len HSP.out.tree HNO.out).mono ?_
        rintro e w9 ⟨rfl, hb⟩
        have HS9 := Lib.hid (HSP.out.below hb)
        clear hb HSP c0 c1 c2 c3 c4 c5
        obtain ⟨c0, c1, c2, c3, c4, c5⟩ := HS9.out.six
        go_wp2_with fail
        with_reducible refine (kcheck_ok HS9.out.len HS9.out.tree).mono ?_
        rintro e w10 ⟨rfl, hb⟩
        rw [chk_none HNO.out]
        have HS10 := Lib.hid (HS9.out.below hb)
        clear hb HS9 c0 c1 c2 c3 c4 c5
        obtain ⟨c0, c1, c2, c3, c4, c5⟩ := HS10.out.six
        go_wp2_with fail
        with_reducible refine (kroots_ok HS10.out.len HS10.out.tree HNO.out).mono ?_
        rintro e w11 ⟨rfl, hb⟩
        have HS11 := Lib.hid (HS10.out.below hb)
        clear hb HS10 c0 c1 c2 c3 c4 c5
        go_wp2_with fail
        with_reducible refine (rworks_ok w11).mono ?_
        rintro e w12 ⟨rfl, hb⟩
        have HF := Lib.hid (bel_then HS11.out.bel hb)
        clear hb
        go_wp2_with fail
        go_ret
        exact ⟨rfl, HF.out⟩
    · as_aux_lemma =>
        obtain ⟨o, ho⟩ : ∃ o, gi T.hgt x = o := ⟨_, rfl⟩
        have e1 := blkIV HBT2.out.h (i := x) (by rw [HBT2.out.hl]; exact hx)
        have f1 := HBT2.out.h.free x
        have hob := HSM.out.h x hx
        rw [ho] at e1 hob
        obtain ⟨v, hv⟩ : ∃ v, wrap64 (o + bv) = v := ⟨_, rfl⟩
        have hvo : v ≠ o := by rw [← hv, ← IntWalk.i64_left]; exact wrap_ne (by omega) ⟨hbl, hbu⟩ hb0
        have hvne : v ≠ gi T.hgt x := by rw [ho]; exact hvo
        have hbt := HBT2.out.setH x v
        have hne : hb' ≠ xb := HXN.out.2.2.2.1
        have hne' : xb ≠ hb' := fun e => hne e.symm
        have HSP : Hid (Spoil w (W.setCell ⟨hb', x, none⟩ (.int .i64 v)) xb m lb rb pb hb' sb { T with hgt := T.hgt.set x v }) :=
          ⟨hbt.lenT, hbt.hA (by show _ ≤ T.lv ∧ T.lv ≤ _; rw [HGT.out.tv.lv]; omega) (by omega), by have := Blk.other HX.out ⟨hb', x, none⟩ (.int .i64 v) hne'; rw [← HGT.out.tv.lv] at this; exact this, bel_set HB3.out HBN.out.2.2.2.2.1⟩
        by_cases hxn : x < n
        · as_aux_lemma =>
            have tn : decide (n ≤ x) = false := by simp; omega
            have HNO : Hid (lsL { T with hgt := T.hgt.set x v } = none) := spoil_leafh HGT.out.tv hxn hvne
            generalize hT2 : ({ T with hgt := T.hgt.set x v } : Tr) = T2 at *
            have hT2lv : T2.lv = (n : Int) := by rw [← hT2]; exact HGT.out.tv.lv
            rw [← hT2lv] at c0
            clear hT2 hT2lv ho hvo hvne hbt hob hx hxn
            go_wp2_with fail
            generalize W.setCell ⟨hb', x, none⟩ (.int .i64 v) = W8 at *
            with_reducible refine (klabels_ok HSP.out.len HSP.out.tree HNO.out).mono ?_
            rintro e w9 ⟨rfl, hb⟩
            have HS9 := Lib.hid (HSP.out.below hb)
            clear hb HSP c0 c1 c2 c3 c4 c5
            obtain ⟨c0, c1, c2, c3, c4, c5⟩ := HS9.out.six
            go_wp2_with fail
            with_reducible refine (kcheck_ok HS9.out.len HS9.out.tree).mono ?_
            rintro e w10 ⟨rfl, hb⟩
            rw [chk_none HNO.out]
            have HS10 := Lib.hid (HS9.out.below hb)
            clear hb HS9 c0 c1 c2 c3 c4 c5
            obtain ⟨c0, c1, c2, c3, c4, c5⟩ := HS10.out.six
            go_wp2_with fail
            with_reducible refine (kroots_ok HS10.out.len HS10.out.tree HNO.out).mono ?_
            rintro e w11 ⟨rfl, hb⟩
            have HS11 := Lib.hid (HS10.out.below hb)
            clear hb HS10 c0 c1 c2 c3 c4 c5
            go_wp2_with fail
            with_reducible refine (rworks_ok w11).mono ?_
            rintro e w12 ⟨rfl, hb⟩
            have HF := Lib.hid (bel_then HS11.out.bel hb)
            clear hb
            go_wp2_with fail
            go_ret
            exact ⟨rfl, HF.out⟩
        · as_aux_lemma =>
            have tn : decide (n ≤ x) = true := by simp; omega
            obtain ⟨rs, hrs⟩ : ∃ rs, decide (Rises T n x v) = rs := ⟨_, rfl⟩
            have HRS := Lib.hid hrs
            have HCK : Hid (chk { T with hgt := T.hgt.set x v } = if rs = true then 0 else 2) := by
              show _ = _
              by_cases hR : Rises T n x v
              · have e : rs = true := by rw [← hrs]; exact decide_eq_true hR
                rw [if_pos e]; exact chk_some (spoil_rise HGT.out.tv (by omega) hx v hR)
              · have e : ¬ rs = true := by rw [← hrs]; simp [hR]
                rw [if_neg e]; exact chk_none (spoil_fall HGT.out.tv (by omega) hx v hR)
            have HG1 : Hid (∀ y, y ≠ x → gi (T.hgt.set x v) y = gi T.hgt y) := fun y hy => gi_set_ne (fun e => hy e.symm)
            have HG2 : Hid (gi (T.hgt.set x v) x = v) := gi_set_self (by rw [HBT2.out.hl]; exact hx)
            have HRI : Hid (Rises T n x v ↔ ((x = n ∨ gi T.hgt (x - 1) ≤ v) ∧ (x + 1 = m ∨ v ≤ gi T.hgt (x + 1)))) := by
              show _ ↔ _
              unfold Rises
              rw [HGT.out.tv.pl]
            obtain ⟨x1, hx1⟩ : ∃ x1, x = x1 + 1 := ⟨x - 1, by omega⟩
            obtain ⟨m1, hm1⟩ : ∃ m1, m = m1 + 1 := ⟨m - 1, by omega⟩
            have HX1 := Lib.hid hx1
            have HM1 := Lib.hid hm1
            have a1' : IntKind.i64.wrap ((x : Int) - 1) = (x1 : Int) := by rw [IntWalk.i64_in _ (by omega)]; omega
            have a2' : IntKind.i64.wrap ((m : Int) - 1) = (m1 : Int) := by rw [IntWalk.i64_in _ (by omega)]; omega
            obtain ⟨x2, hx2⟩ : ∃ x2, x + 1 = x2 := ⟨_, rfl⟩
            have HX2 := Lib.hid hx2
            have a3' : IntKind.i64.wrap ((x : Int) + 1) = (x2 : Int) := by rw [IntWalk.i64_in _ (by omega)]; omega
            have b1' : (x1 : Int) < (m : Int) := by omega
            have b2' : (0 : Int) ≤ (x1 : Int) := by omega
            have b3' : (0 : Int) ≤ (x2 : Int) := by omega
            clear hx1 hm1 hx2
            go_upto_region 11 with fail
            simp only [h6]
            clear h6
            generalize W.setCell ⟨hb', x, none⟩ (.int .i64 v) = W8 at *
            clear c0 c1 c2 c3 c4 c5 e1 f1
            obtain ⟨c0, c1, c2, c3, c4, c5⟩ := HSP.out.six
            have HHC : Hid (∀ y, y < m → W8.cell? ⟨hb', y, none⟩ = some (.int .i64 (gi (T.hgt.set x v) y))) := fun y hy => by
              have := HSP.out.tree.h
              rw [HSP.out.len.h] at this
              exact row_at this hy
            go_cut [16] (fun s wx => s = .bool rs ∧ DrewAny W8 wx)
            case first =>
              have d1 := HHC.out x hx
              rw [HG2.out] at d1
              have d0 := HHC.out x1 (by omega)
              have hxx1 := HX1.out
              rw [HG1.out x1 (by omega)] at d0
              obtain ⟨p1, hp1⟩ : ∃ p1, gi T.hgt x1 = p1 := ⟨_, rfl⟩
              rw [hp1] at d0
              have hri := HRI.out
              rw [show x - 1 = x1 by omega, hp1, HX2.out] at hri
              clear hp1 hxx1
              by_cases hf1 : x = n
              · have r1' : ((x : Int) == (n : Int)) = true := by simp [hf1]
                by_cases hs1 : x2 = m
                · have s1' : ((x : Int) == (m1 : Int)) = true := by have := HX2.out; have := HM1.out; simp; omega
                  have s2' : True := trivial
                  obtain rfl : rs = true := by rw [← HRS.out]; exact decide_eq_true (hri.2 ⟨.inl hf1, .inl hs1⟩)
                  clear hf1 hs1 HRS hrs HCK hri
                  go_quiet (fail)
                  go_wp2_with fail
                  go_meet
                  first | exact ⟨rfl, ⟨_, rfl⟩⟩ | ((repeat apply Exists.intro); exact ⟨⟨rfl, ⟨_, rfl⟩⟩, rfl⟩)
                · have s1' : ((x : Int) == (m1 : Int)) = false := by have := HX2.out; have := HM1.out; simp; omega
                  have hx2m : x2 < m := by have := HX2.out; omega
                  have d2 := HHC.out x2 hx2m
                  rw [HG1.out x2 (by have := HX2.out; omega)] at d2
                  obtain ⟨p2, hp2⟩ : ∃ p2, gi T.hgt x2 = p2 := ⟨_, rfl⟩
                  rw [hp2] at d2 hri
                  have b4' : (x2 : Int) < (m : Int) := by omega
                  by_cases hs2 : v ≤ p2
                  · have s3' : decide (v ≤ p2) = true := decide_eq_true hs2
                    obtain rfl : rs = true := by rw [← HRS.out]; exact decide_eq_true (hri.2 ⟨.inl hf1, .inr hs2⟩)
                    clear hf1 hs1 hs2 hp2 HRS hrs HCK hri
                    go_quiet (fail)
                    go_wp2_with fail
                    go_meet
                    first | exact ⟨rfl, ⟨_, rfl⟩⟩ | ((repeat apply Exists.intro); exact ⟨⟨rfl, ⟨_, rfl⟩⟩, rfl⟩)
                  · have s3' : decide (v ≤ p2) = false := decide_eq_false hs2
                    obtain rfl : rs = false := by rw [← HRS.out]; exact decide_eq_false (fun q => by rcases (hri.1 q).2 with e | e; (· exact hs1 e); (· exact hs2 e))
                    clear hf1 hs1 hs2 hp2 HRS hrs HCK hri
                    go_quiet (fail)
                    go_wp2_with fail
                    go_meet
                    first | exact ⟨rfl, ⟨_, rfl⟩⟩ | ((repeat apply Exists.intro); exact ⟨⟨rfl, ⟨_, rfl⟩⟩, rfl⟩)
              · have r1' : ((x : Int) == (n : Int)) = false := by simp; omega
                by_cases hf2 : p1 ≤ v
                · have r2' : decide (p1 ≤ v) = true := decide_eq_true hf2
                  by_cases hs1 : x2 = m
                  · have s1' : ((x : Int) == (m1 : Int)) = true := by have := HX2.out; have := HM1.out; simp; omega
                    have s2' : True := trivial
                    obtain rfl : rs = true := by rw [← HRS.out]; exact decide_eq_true (hri.2 ⟨.inr hf2, .inl hs1⟩)
                    clear hf1 hf2 hs1 HRS hrs HCK hri
                    go_quiet (fail)
                    go_wp2_with fail
                    go_meet
                    first | exact ⟨rfl, ⟨_, rfl⟩⟩ | ((repeat apply Exists.intro); exact ⟨⟨rfl, ⟨_, rfl⟩⟩, rfl⟩)
                  · have s1' : ((x : Int) == (m1 : Int)) = false := by have := HX2.out; have := HM1.out; simp; omega
                    have hx2m : x2 < m := by have := HX2.out; omega
                    have d2 := HHC.out x2 hx2m
                    rw [HG1.out x2 (by have := HX2.out; omega)] at d2
                    obtain ⟨p2, hp2⟩ : ∃ p2, gi T.hgt x2 = p2 := ⟨_, rfl⟩
                    rw [hp2] at d2 hri
                    have b4' : (x2 : Int) < (m : Int) := by omega
                    by_cases hs2 : v ≤ p2
                    · have s3' : decide (v ≤ p2) = true := decide_eq_true hs2
                      obtain rfl : rs = true := by rw [← HRS.out]; exact decide_eq_true (hri.2 ⟨.inr hf2, .inr hs2⟩)
                      clear hf1 hf2 hs1 hs2 hp2 HRS hrs HCK hri
                      go_quiet (fail)
                      go_wp2_with fail
                      go_meet
                      first | exact ⟨rfl, ⟨_, rfl⟩⟩ | ((repeat apply Exists.intro); exact ⟨⟨rfl, ⟨_, rfl⟩⟩, rfl⟩)
                    · have s3' : decide (v ≤ p2) = false := decide_eq_false hs2
                      obtain rfl : rs = false := by rw [← HRS.out]; exact decide_eq_false (fun q => by rcases (hri.1 q).2 with e | e; (· exact hs1 e); (· exact hs2 e))
                      clear hf1 hf2 hs1 hs2 hp2 HRS hrs HCK hri
                      go_quiet (fail)
                      go_wp2_with fail
                      go_meet
                      first | exact ⟨rfl, ⟨_, rfl⟩⟩ | ((repeat apply Exists.intro); exact ⟨⟨rfl, ⟨_, rfl⟩⟩, rfl⟩)
                · have r2' : decide (p1 ≤ v) = false := decide_eq_false hf2
                  obtain rfl : rs = false := by rw [← HRS.out]; exact decide_eq_false (fun q => by rcases (hri.1 q).1 with e | e; (· exact hf1 e); (· exact hf2 e))
                  clear hf1 hf2 HRS hrs HCK hri
                  go_quiet (fail)
                  go_wp2_with fail
                  go_meet
                  first | exact ⟨rfl, ⟨_, rfl⟩⟩ | ((repeat apply Exists.intro); exact ⟨⟨rfl, ⟨_, rfl⟩⟩, rfl⟩)
            case rest =>
              obtain ⟨rfl, q, rfl⟩ := hcut
              have HS9 : Hid (Spoil w (W8.drewN q) xb m lb rb pb hb' sb { T with hgt := T.hgt.set x v }) := HSP.out.below (bel_drewN (Below.refl _ _) q)
              have HLV2 : Hid (({ T with hgt := T.hgt.set x v } : Tr).lv = (n : Int)) := HGT.out.tv.lv
              clear HRS hrs HSP HHC c0 c1 c2 c3 c4 c5 HG1 HG2 HRI a1' a2' a3' b1' b2' b3' ho hvo hvne hbt hob
              generalize W8.drewN q = w9 at *
              generalize ({ T with hgt := T.hgt.set x v } : Tr) = T2 at *
              obtain ⟨c0, c1, c2, c3, c4, c5⟩ := HS9.out.six
              go_wp2_with fail
              with_reducible refine (kcheck_ok HS9.out.len HS9.out.tree).mono ?_
              rintro e w10 ⟨rfl, hb⟩
              rw [HCK.out]
              have HB10 := Lib.hid (bel_then HS9.out.bel hb)
              clear hb HCK c0 c1 c2 c3 c4 c5
              cases rs with
              | true =>
                rw [if_pos rfl]
                go_wp2_with fail
                with_reducible refine (rworks_ok w10).mono ?_
                rintro e w12 ⟨rfl, hb⟩
                have HF := Lib.hid (bel_then HB10.out hb)
                clear hb
                go_wp2_with fail
                go_ret
                exact ⟨rfl, HF.out⟩
              | false =>
                rw [if_neg (by decide)]
                go_wp2_with fail
                with_reducible refine (rworks_ok w10).mono ?_
                rintro e w12 ⟨rfl, hb⟩
                have HF := Lib.hid (bel_then HB10.out hb)
                clear hb
                go_wp2_with fail
                go_ret
                exact ⟨rfl, HF.out⟩

end Go.Proofs.Ytenhbfbfkcjimaa
