/- DlT. -/
import Derived.Test.YthacjealoomioaaGreatDoorZDlG
import Derived.Test.YthacjealoomioaaGreatDoorZHa
import Derived.Test.YthacjealoomioaaGreatDoorZHb
import Derived.Test.YthacjealoomioaaGreatDoorZHc
import Derived.BigQuiet
/- tells of layer 22. (printed by dlt.py) -/
namespace Go.Proofs.YthacjealoomioaaGreatDoor
set_option linter.unusedVariables false
set_option linter.unusedSimpArgs false
open Go.RowKit

def mgN (t : Tr) : Nat := match lsL t with | none => 0 | some _ => t.par.length - t.lv.toNat
def mgE (t : Tr) : Int := match lsL t with | none => 2 | some _ => 0
theorem MgPost.row {w w' : World} {t : Tr} {e : Ending} (h : MgPost w t e w') : ∃ a k b, e = .returned (.tuple #[.slice a (mgN t) k, .int .i64 (mgE t)]) ∧ MRow w' a b (mgN t) t t.lv.toNat ((lsL t).getD []) := by
  cases hl : lsL t with
  | none =>
    have e1 : mgN t = 0 := by unfold mgN; rw [hl]
    have e2 : mgE t = 2 := by unfold mgE; rw [hl]
    rw [e1, e2]
    exact ⟨none, 0, 0, h.bad hl, ⟨fun h => by omega, fun i hi => by omega⟩⟩
  | some ls =>
    have e1 : mgN t = t.par.length - t.lv.toNat := by unfold mgN; rw [hl]
    have e2 : mgE t = 0 := by unfold mgE; rw [hl]
    obtain ⟨v, rfl, hown, _⟩ := h.ok ls hl
    obtain ⟨a, k, b, rfl, hr⟩ := MRow.of_owns hown
    rw [e1, e2]
    exact ⟨a, k, b, rfl, hr⟩
theorem mgN_le (t : Tr) : mgN t ≤ 8192 := by
  unfold mgN
  cases hl : lsL t with
  | none => exact Nat.zero_le _
  | some ls =>
    obtain ⟨n, m, tv, h2⟩ := TV.of_ls hl
    have := tv.hn
    simp only
    rw [tv.pl]
    omega
theorem cut_bad {t : Tr} {k : Int} (h : (cutO t k).1 ≠ 0) : (cutO t k).2 = [] := by
  unfold cutO at h ⊢
  cases hl : lsL t with
  | none => rfl
  | some ls =>
    rw [hl] at h
    simp only at h ⊢
    split
    · rfl
    · rename_i hc
      rw [if_neg hc] at h
      exact absurd rfl h
theorem CtPost.row {w w' : World} {t : Tr} {k : Int} {e : Ending} (h : CtPost w t k e w') : ∃ a c b, e = .returned (.tuple #[.slice a (cutO t k).2.length c, .int .i64 (cutO t k).1]) ∧ InRow .i64 w' a (cutO t k).2.length b 0 (nI (cutO t k).2) := by
  by_cases h0 : (cutO t k).1 = 0
  · obtain ⟨v, rfl, hown, _⟩ := h.ok h0
    obtain ⟨a, c, b, rfl, hin, _⟩ := own_rowN hown rfl
    exact ⟨a, c, b, by rw [h0], hin⟩
  · have e2 := cut_bad h0
    refine ⟨none, 0, 0, by rw [h.bad h0, e2]; rfl, ?_⟩
    rw [e2]
    exact ⟨rfl, fun h => by simp at h, fun i hi => by simp at hi⟩
theorem cut_len (t : Tr) (k : Int) : (cutO t k).2.length ≤ 4096 := by
  unfold cutO
  cases hl : lsL t with
  | none => exact Nat.zero_le _
  | some ls =>
    obtain ⟨n, m, tv, h2⟩ := TV.of_ls hl
    simp only
    split
    · exact Nat.zero_le _
    · show (cutL _ _ _ _ _).length ≤ _
      rw [cutL_len, tv.lv, Int.toNat_natCast]
      exact tv.hn

set_option maxHeartbeats 8000000 in
set_option maxRecDepth 100000 in
theorem msame_ok (w : World) (a a' : Option Addr) (b b' K k k' : Nat) (t : Tr) (n : Nat) (ls : List Nat) (h : MRow w a b K t n ls) (h' : MRow w a' b' K t n ls) (hK : K ≤ 8192) : Calls Tryz.prog 41 #[.slice a K k, .slice a' K k'] w (RetB (.bool true) w) := by
  have H1 := Lib.hid h
  have H2 := Lib.hid h'
  clear h h'
  have t0 : ((K : Int) != (K : Int)) = false := by simp
  go_enter Tryz.func41, Tryz.ntmps41
  go_wp2_with fail
  go_loopw [5] (fun s wr => ∃ i : Nat, i ≤ K ∧ s = .int .i64 (i : Int) ∧ Below w.heap.size w wr) (fun s _ => K - (intOf s).toNat)
  case atStart => exact ⟨0, Nat.zero_le _, rfl, Below.refl _ _⟩
  case round =>
    obtain ⟨i, hi, rfl, hb⟩ := hrel
    have HB := Lib.hid hb
    clear hb
    by_cases hiK : i < K
    · obtain rfl := H1.out.adr (by omega)
      obtain rfl := H2.out.adr (by omega)
      obtain ⟨e0, e1, e2, e3, e4⟩ := (H1.out.below HB.out).cell i hiK
      obtain ⟨f0, f1, f2, f3, f4⟩ := (H2.out.below HB.out).cell i hiK
      generalize ((ls.getD (lc t (n + i)) 0 : Nat) : Int) = p at *
      generalize ((ls.getD (rc t (n + i)) 0 : Nat) : Int) = q at *
      generalize gi t.hgt (n + i) = g at *
      generalize gi t.siz (n + i) = z at *
      have t1 : (i : Int) < (K : Int) := by omega
      have t2 : (0 : Int) ≤ (i : Int) := by omega
      go_wp2_with fail
      go_quiet (fail)
      have HB7 := Lib.hid (bel_drewN HB.out nq)
      generalize wr.drewN nq = w7 at HB7 ⊢
      clear e0 e1 e2 e3 e4 f0 f1 f2 f3 f4
      go_wp2_with fail
      go_roundw
      case rel => exact ⟨i + 1, by omega, by go_num, HB7.out⟩
      case measure => simp [intOf]; omega
    · obtain rfl : i = K := by omega
      have t1 : ¬ (i : Int) < (i : Int) := by omega
      go_wp2_with fail
      go_ret
      exact ⟨rfl, HB.out⟩

set_option maxHeartbeats 16000000 in
set_option maxRecDepth 100000 in
theorem dtells_ok (w : World) (hP : Pow10 w.heap.size w) (hQ : Tab64 w) (A : TA) (t : Tr) (ht : TreeAt w A t) (hc : t.hgt.length ≤ A.h.c) (h64 : Hgt64 t) (hmm : t.left.length ≤ 1000000) (k x y : Int) (hk : -9223372036854775808 ≤ k ∧ k ≤ 9223372036854775807) :
    Calls Tryz.prog 15 #[A.agg t, .int .i64 k, .int .i64 x, .int .i64 y] w (RetB (.bool true) w) := by
  have HP := Lib.hid hP
  have HQ := Lib.hid hQ
  have HC := Lib.hid hc
  have H64 := Lib.hid h64
  have HX1 := Lib.hid (TBox.new w A t)
  have HB1 := Lib.hid (bel_alloc w (.cells #[.int .i64 t.lv, .slice A.l.o t.left.length A.l.c, .slice A.r.o t.right.length A.r.c, .slice A.p.o t.par.length A.p.c, .slice A.h.o t.hgt.length A.h.c, .slice A.s.o t.siz.length A.s.c] 27))
  have HT1 := Lib.hid (ht.below HB1.out)
  have hmN := mgN_le t
  have hcN := cut_len t k
  clear ht hP hQ hc h64
  have c0 := TBox.c0 HX1.out
  have c1 := TBox.c1 HX1.out
  have c2 := TBox.c2 HX1.out
  have c3 := TBox.c3 HX1.out
  have c4 := TBox.c4 HX1.out
  have c5 := TBox.c5 HX1.out
  show Calls _ _ #[.agg #[.int .i64 t.lv, .slice A.l.o t.left.length A.l.c, .slice A.r.o t.right.length A.r.c, .slice A.p.o t.par.length A.p.c, .slice A.h.o t.hgt.length A.h.c, .slice A.s.o t.siz.length A.s.c], _, _, _] _ _
  have HAG : Hid (A.agg t = .agg #[.int .i64 t.lv, .slice A.l.o t.left.length A.l.c, .slice A.r.o t.right.length A.r.c, .slice A.p.o t.par.length A.p.c, .slice A.h.o t.hgt.length A.h.c, .slice A.s.o t.siz.length A.s.c]) := rfl
  go_enter Tryz.func15, Tryz.ntmps15
  go_upto_region 1 with fail
  generalize hxe : w.heap.size = xb at *
  have HXE := Lib.hid hxe
  clear hxe
  generalize (w.alloc (.cells #[.int .i64 t.lv, .slice A.l.o t.left.length A.l.c, .slice A.r.o t.right.length A.r.c, .slice A.p.o t.par.length A.p.c, .slice A.h.o t.hgt.length A.h.c, .slice A.s.o t.siz.length A.s.c] 27)) = w1 at *
  have hcon := merges_ok w1 A t HT1.out
  go_wp2_with fail
  with_reducible refine hcon.mono ?_
  rintro e w2 hp
  obtain ⟨a2, k2, b2, rfl, hr⟩ := hp.row
  have hb := hp.bel
  have HM2 := Lib.hid hr
  clear hp hr hcon c0 c1 c2 c3 c4 c5
  have HB2 : Hid (Below xb w w2) := HB1.out.trans (hb.mono (Nat.le_of_lt (Blk.lt HX1.out)))
  have HX2 := Lib.hid (Blk.below HX1.out hb (Blk.lt HX1.out))
  have HT2 := Lib.hid (HT1.out.below hb)
  clear HB1 HX1 HT1
  have c0 := TBox.c0 HX2.out
  have c1 := TBox.c1 HX2.out
  have c2 := TBox.c2 HX2.out
  have c3 := TBox.c3 HX2.out
  have c4 := TBox.c4 HX2.out
  have c5 := TBox.c5 HX2.out
  have hcon := r22merges_ok w2 A t HT2.out hmm
  go_wp2_with fail
  with_reducible refine hcon.mono ?_
  rintro e w3 hp
  obtain ⟨a3, k3, b3, rfl, hr⟩ := hp.row
  have hb := hp.bel
  have HN3 := Lib.hid hr
  clear hp hr hcon c0 c1 c2 c3 c4 c5
  have HB3 : Hid (Below xb w w3) := HB2.out.trans (hb.mono (Nat.le_of_lt (Blk.lt HX2.out)))
  have HX3 := Lib.hid (Blk.below HX2.out hb (Blk.lt HX2.out))
  have HT3 := Lib.hid (HT2.out.below hb)
  clear HB2 HX2 HT2
  have HM3 := Lib.hid (HM2.out.below hb)
  have tE : ((mgE t) != (mgE t)) = false := by simp
  go_wp2_with fail
  with_reducible refine (msame_ok w3 a2 a3 b2 b3 (mgN t) k2 k3 t t.lv.toNat ((lsL t).getD []) HM3.out HN3.out (by omega)).mono ?_
  rintro e w4 ⟨rfl, hb⟩
  have HB4 : Hid (Below xb w w4) := HB3.out.trans (hb.mono (Nat.le_of_lt (Blk.lt HX3.out)))
  have HX4 := Lib.hid (Blk.below HX3.out hb (Blk.lt HX3.out))
  have HT4 := Lib.hid (HT3.out.below hb)
  clear HB3 HX3 HT3
  have c0 := TBox.c0 HX4.out
  have c1 := TBox.c1 HX4.out
  have c2 := TBox.c2 HX4.out
  have c3 := TBox.c3 HX4.out
  have c4 := TBox.c4 HX4.out
  have c5 := TBox.c5 HX4.out
  clear hb HM3 HN3 HM2
  have hcon := cut_ok w4 A t HT4.out k hk
  go_wp2_with fail
  with_reducible refine hcon.mono ?_
  rintro e w5 hp
  obtain ⟨a5, k5, b5, rfl, hr⟩ := hp.row
  have hb := hp.bel
  have HI5 := Lib.hid hr
  clear hp hr hcon c0 c1 c2 c3 c4 c5 tE
  have HB5 : Hid (Below xb w w5) := HB4.out.trans (hb.mono (Nat.le_of_lt (Blk.lt HX4.out)))
  have HX5 := Lib.hid (Blk.below HX4.out hb (Blk.lt HX4.out))
  have HT5 := Lib.hid (HT4.out.below hb)
  clear HB4 HX4 HT4
  have c0 := TBox.c0 HX5.out
  have c1 := TBox.c1 HX5.out
  have c2 := TBox.c2 HX5.out
  have c3 := TBox.c3 HX5.out
  have c4 := TBox.c4 HX5.out
  have c5 := TBox.c5 HX5.out
  have hcon := r22cut_ok w5 A t HT5.out hmm k hk
  go_wp2_with fail
  with_reducible refine hcon.mono ?_
  rintro e w6 hp
  obtain ⟨a6, k6, b6, rfl, hr⟩ := hp.row
  have hb := hp.bel
  have HJ6 := Lib.hid hr
  clear hp hr hcon c0 c1 c2 c3 c4 c5
  have HB6 : Hid (Below xb w w6) := HB5.out.trans (hb.mono (Nat.le_of_lt (Blk.lt HX5.out)))
  have HX6 := Lib.hid (Blk.below HX5.out hb (Blk.lt HX5.out))
  have HT6 := Lib.hid (HT5.out.below hb)
  clear HB5 HX5 HT5
  have HI6 := Lib.hid (HI5.out.below hb)
  obtain ⟨CL, HCL⟩ : ∃ l, Hid ((cutO t k).2 = l) := ⟨_, rfl⟩
  obtain ⟨ce, HCE⟩ : ∃ l, Hid ((cutO t k).1 = l) := ⟨_, rfl⟩
  simp only [HCL.out, HCE.out] at HI6 HJ6 hcN ⊢
  have tE : (ce != ce) = false := by simp
  go_wp2_with fail
  with_reducible refine (rsame_ok w6 a5 a6 CL.length k5 k6 b5 b6 0 0 (nI CL) HI6.out HJ6.out (by omega)).mono ?_
  rintro e w7 ⟨rfl, hb⟩
  have HB7 : Hid (Below xb w w7) := HB6.out.trans (hb.mono (Nat.le_of_lt (Blk.lt HX6.out)))
  have HX7 := Lib.hid (Blk.below HX6.out hb (Blk.lt HX6.out))
  have HT7 := Lib.hid (HT6.out.below hb)
  clear HB6 HX6 HT6
  have c0 := TBox.c0 HX7.out
  have c1 := TBox.c1 HX7.out
  have c2 := TBox.c2 HX7.out
  have c3 := TBox.c3 HX7.out
  have c4 := TBox.c4 HX7.out
  have c5 := TBox.c5 HX7.out
  clear hb HI6 HJ6 HI5
  obtain ⟨g1, g2, g3, HGP⟩ : ∃ g1 g2 g3 : Int, Hid (gapR t = .tuple #[.int .i64 g1, .int .u64 g2, .int .i64 g3]) := by
    unfold gapR gapV
    cases lsL t with
    | none => exact ⟨_, _, _, rfl⟩
    | some _ =>
      simp only
      split
      · exact ⟨_, _, _, rfl⟩
      · exact ⟨_, _, _, rfl⟩
  have hcon := gap_ok w7 A t HT7.out HC.out
  rw [HGP.out] at hcon
  go_wp2_with fail
  with_reducible refine hcon.mono ?_
  rintro e w8 ⟨rfl, hb⟩
  clear hcon c0 c1 c2 c3 c4 c5 tE
  have HB8 : Hid (Below xb w w8) := HB7.out.trans (hb.mono (Nat.le_of_lt (Blk.lt HX7.out)))
  have HX8 := Lib.hid (Blk.below HX7.out hb (Blk.lt HX7.out))
  have HT8 := Lib.hid (HT7.out.below hb)
  clear HB7 HX7 HT7
  have c0 := TBox.c0 HX8.out
  have c1 := TBox.c1 HX8.out
  have c2 := TBox.c2 HX8.out
  have c3 := TBox.c3 HX8.out
  have c4 := TBox.c4 HX8.out
  have c5 := TBox.c5 HX8.out
  clear hb
  have hcon := r22gap_ok w8 A t HT8.out HC.out hmm
  rw [HGP.out] at hcon
  have u1 : (g1 != g1) = false := by simp
  have u2 : (g2 != g2) = false := by simp
  have u3 : (g3 != g3) = false := by simp
  go_wp2_with fail
  with_reducible refine hcon.mono ?_
  rintro e w9 ⟨rfl, hb⟩
  clear hcon c0 c1 c2 c3 c4 c5
  have HB9 : Hid (Below xb w w9) := HB8.out.trans (hb.mono (Nat.le_of_lt (Blk.lt HX8.out)))
  have HX9 := Lib.hid (Blk.below HX8.out hb (Blk.lt HX8.out))
  have HT9 := Lib.hid (HT8.out.below hb)
  clear HB8 HX8 HT8
  have c0 := TBox.c0 HX9.out
  have c1 := TBox.c1 HX9.out
  have c2 := TBox.c2 HX9.out
  have c3 := TBox.c3 HX9.out
  have c4 := TBox.c4 HX9.out
  have c5 := TBox.c5 HX9.out
  clear hb
  obtain ⟨o, HO⟩ : ∃ o, Hid (copO t x y = o) := ⟨_, rfl⟩
  have hcon := coph_ok w9 (HQ.out.below (by have h := HB9.out; rw [← HXE.out] at h; exact h)) A t HT9.out x y
  rw [HO.out, copR] at hcon
  go_wp2_with fail
  clear u1 u2 u3
  with_reducible refine hcon.mono ?_
  rintro e w10 ⟨rfl, hb⟩
  clear hcon c0 c1 c2 c3 c4 c5
  have HB10 : Hid (Below xb w w10) := HB9.out.trans (hb.mono (Nat.le_of_lt (Blk.lt HX9.out)))
  have HX10 := Lib.hid (Blk.below HX9.out hb (Blk.lt HX9.out))
  have HT10 := Lib.hid (HT9.out.below hb)
  clear HB9 HX9 HT9
  have c0 := TBox.c0 HX10.out
  have c1 := TBox.c1 HX10.out
  have c2 := TBox.c2 HX10.out
  have c3 := TBox.c3 HX10.out
  have c4 := TBox.c4 HX10.out
  have c5 := TBox.c5 HX10.out
  clear hb
  have hcon := r22coph_ok w10 A t HT10.out hmm x y
  rw [HO.out, copR] at hcon
  go_wp2_with fail
  with_reducible refine hcon.mono ?_
  rintro e w11 ⟨rfl, hb⟩
  clear hcon c0 c1 c2 c3 c4 c5
  have HB11 : Hid (Below xb w w11) := HB10.out.trans (hb.mono (Nat.le_of_lt (Blk.lt HX10.out)))
  have HX11 := Lib.hid (Blk.below HX10.out hb (Blk.lt HX10.out))
  have HT11 := Lib.hid (HT10.out.below hb)
  clear HB10 HX10 HT10
  have c0 := TBox.c0 HX11.out
  have c1 := TBox.c1 HX11.out
  have c2 := TBox.c2 HX11.out
  have c3 := TBox.c3 HX11.out
  have c4 := TBox.c4 HX11.out
  have c5 := TBox.c5 HX11.out
  clear hb
  obtain ⟨S, sc, HTX⟩ : ∃ (S : ByteArray) (sc : Int), Hid (txR (txtO t) = .tuple #[.string S, .int .i64 sc]) := by
    cases txtO t with
    | none => exact ⟨_, _, rfl⟩
    | some l => exact ⟨_, _, rfl⟩
  have hcon := text_ok w11 (by have h := HP.out; rw [← HXE.out] at h; exact h.up (by have h := HB11.out; rw [← HXE.out] at h; exact h)) A t HT11.out H64.out
  rw [HTX.out] at hcon
  go_wp2_with fail
  with_reducible refine hcon.mono ?_
  rintro e w12 ⟨rfl, hb⟩
  clear hcon c0 c1 c2 c3 c4 c5
  have HB12 : Hid (Below xb w w12) := HB11.out.trans (hb.mono (Nat.le_of_lt (Blk.lt HX11.out)))
  have HX12 := Lib.hid (Blk.below HX11.out hb (Blk.lt HX11.out))
  have HT12 := Lib.hid (HT11.out.below hb)
  clear HB11 HX11 HT11
  have c0 := TBox.c0 HX12.out
  have c1 := TBox.c1 HX12.out
  have c2 := TBox.c2 HX12.out
  have c3 := TBox.c3 HX12.out
  have c4 := TBox.c4 HX12.out
  have c5 := TBox.c5 HX12.out
  clear hb
  have hcon := r22rtext_ok w12 A t HT12.out hmm H64.out
  rw [HTX.out] at hcon
  have v1 : ((o.getD 0) == (o.getD 0)) = true := by simp
  have v2 : (o.isSome == o.isSome) = true := by simp
  have v3 : (sc == sc) = true := by simp
  go_wp2_with fail
  with_reducible refine hcon.mono ?_
  rintro e w13 ⟨rfl, hb⟩
  clear hcon c0 c1 c2 c3 c4 c5
  have HB13 : Hid (Below xb w w13) := HB12.out.trans (hb.mono (Nat.le_of_lt (Blk.lt HX12.out)))
  have HX13 := Lib.hid (Blk.below HX12.out hb (Blk.lt HX12.out))
  have HT13 := Lib.hid (HT12.out.below hb)
  clear HB12 HX12 HT12
  clear hb
  go_wp2_with fail
  go_ret
  exact ⟨rfl, (by have h := HB13.out; rw [← HXE.out] at h; exact h)⟩

end Go.Proofs.YthacjealoomioaaGreatDoor
