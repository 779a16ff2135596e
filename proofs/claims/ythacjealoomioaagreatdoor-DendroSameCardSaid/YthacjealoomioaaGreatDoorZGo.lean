/- DmF, DmX. -/
import Derived.Test.YthacjealoomioaaGreatDoorZGn
import Derived.Test.YthacjealoomioaaGreatDoorZGc
import Derived.Test.YthacjealoomioaaGreatDoorZGl
import Derived.Lib.ItoaLen
import Derived.Laws.EntriesVeiled
import Derived.Lib.BufferRead
/- dendro.Text. -/
namespace Go.Proofs.YthacjealoomioaaGreatDoor
set_option linter.unusedVariables false
set_option linter.unusedSimpArgs false
open Go.RowKit

/-- What Text returns. -/
def txR (o : Option (List UInt8)) : Value := match o with | none => .tuple #[.string ⟨#[]⟩, .int .i64 2] | some l => .tuple #[.string ⟨l.toArray⟩, .int .i64 0]

/- How long a text is. -/
theorem BT.txt_len : ∀ (b : BT), b.Fit → b.txt.length + 25 ≤ 50 * b.lvs
  | .leaf x, h => by
    have := Lib.itoa_length_le (x : Int) (by omega) (by have : x < 4096 := h; omega)
    show (Lib.itoa (x : Int)).length + 25 ≤ 50 * 1
    omega
  | .node l r h, hf => by
    obtain ⟨h1, h2, h3⟩ := hf
    have e1 := BT.txt_len l h1
    have e2 := BT.txt_len r h2
    have e3 := Lib.itoa_length_le h h3.1 h3.2
    rw [BT.txt, BT.lvs]
    simp only [List.length_cons, List.length_append]
    omega
theorem fTxt_len : ∀ (F : List BT), (∀ b ∈ F, b.Fit) → (fTxt F).length ≤ 50 * fLvs F
  | [], _ => by simp [fTxt]
  | b :: F, h => by
    have e1 := BT.txt_len b (h b (List.mem_cons_self ..))
    have e2 := fTxt_len F (fun x hx => h x (List.mem_cons_of_mem _ hx))
    have e3 : fTxt (b :: F) = b.txt ++ [59] ++ fTxt F := by simp [fTxt]
    have e4 : fLvs (b :: F) = b.lvs + fLvs F := by simp [fLvs]
    rw [e3, e4]
    simp only [List.length_append, List.length_cons, List.length_nil]
    omega
theorem fTxt_snoc (F : List BT) (b : BT) : fTxt (F ++ [b]) = fTxt F ++ b.txt ++ [59] := by simp [fTxt, List.flatMap_append]
theorem fTxt_pre {F : List BT} {i : Nat} (hi : i < F.length) : fTxt (F.take (i + 1)) = fTxt (F.take i) ++ (F[i]).txt ++ [59] := by
  rw [List.take_succ_eq_append_getElem hi, fTxt_snoc]
theorem fTxt_take_le (F : List BT) (i : Nat) : (fTxt (F.take i)).length ≤ (fTxt F).length := by
  have : fTxt F = fTxt (F.take i) ++ fTxt (F.drop i) := by
    unfold fTxt
    rw [← List.flatMap_append, List.take_append_drop]
  rw [this, List.length_append]
  omega

theorem conv_own {W : World} {B : Nat} {v : Value} {l : List UInt8} (h : W.ownsRow B 5 1 v l.length (Lib.byteCells l)) : (convert 56 9 v).run Tryz.prog W = .ok (.string ⟨l.toArray⟩) W := by
  rcases h.2 with ⟨rfl, h0⟩ | ⟨g, cap, cur, rfl, _, hg, _, _, _, htk⟩
  · have hl : l = [] := List.eq_nil_of_length_eq_zero h0
    subst hl
    exact Lib.run_convert_nil_bytes W _ _ 5 0 Tryz.underlying56 Tryz.underlying5 Tryz.underlying9
  · exact run_convert_bytes_back W _ _ 5 ⟨g, 0, none⟩ cap l Tryz.underlying56 Tryz.underlying5 Tryz.underlying9 (Lib.bytes_of_row hg (by rw [← htk, Nat.mul_one]))

theorem owns_kh {W W' : World} {T n : Nat} {v : Value} {xs : List Value} (h : W.ownsRow 0 T 1 v n xs) (hk : ∀ b T' cs, T' = T → Blk W b T' cs → Blk W' b T' cs) : W'.ownsRow 0 T 1 v n xs := by
  refine owns_same h fun k hk2 => ?_
  rcases h.2 with ⟨rfl, _⟩ | ⟨g, cap, cur, rfl, _, hg, _⟩
  · cases hk2
  · have : g = k := by simpa [Value.ownBlock] using hk2
    subst this
    have hb : Blk W g T cur.toList := by unfold Blk; rw [hg]
    have := hk g T cur.toList rfl hb
    unfold Blk at this
    rw [this, hg]

set_option maxHeartbeats 8000000 in
set_option maxRecDepth 100000 in
theorem text_ok (w : World) (hP : Pow10 w.heap.size w) (A : TA) (t : Tr) (ht : TreeAt w A t) (h64 : Hgt64 t) : Calls Tryz.prog 25 #[A.agg t] w (RetB (txR (txtO t)) w) := by
  have HP := Lib.hid hP
  have H64 := Lib.hid h64
  have HT := Lib.hid ht
  have HB := Lib.hid (TBox.new w A t)
  have HW := Lib.hid (bel_alloc w (.cells #[.int .i64 t.lv, .slice A.l.o t.left.length A.l.c, .slice A.r.o t.right.length A.r.c, .slice A.p.o t.par.length A.p.c, .slice A.h.o t.hgt.length A.h.c, .slice A.s.o t.siz.length A.s.c] 27))
  have HT2 := Lib.hid (ht.below HW.out)
  have c0 := HB.out.c0
  have c1 := HB.out.c1
  have c2 := HB.out.c2
  have c3 := HB.out.c3
  have c4 := HB.out.c4
  have c5 := HB.out.c5
  clear ht hP h64
  show Calls _ _ #[.agg #[.int .i64 t.lv, .slice A.l.o t.left.length A.l.c, .slice A.r.o t.right.length A.r.c, .slice A.p.o t.par.length A.p.c, .slice A.h.o t.hgt.length A.h.c, .slice A.s.o t.siz.length A.s.c]] _ _
  go_enter Tryz.func25, Tryz.ntmps25
  go_wp2_with fail
  with_reducible refine (check_ok _ A t HT2.out).mono ?_
  rintro e w2 ⟨rfl, hb⟩
  have HW2 := Lib.hid (bel_then HW.out hb)
  have HB2 := Lib.hid (Blk.below HB.out hb (Blk.lt HB.out))
  have HT3 := Lib.hid (HT2.out.below hb)
  clear hb c0 c1 c2 c3 c4 c5
  cases hl : lsL t with
  | none =>
    have HR : Hid (txtO t = none) := by show _ = _; unfold txtO; rw [hl]
    rw [chk_none hl]
    clear hl
    go_wp2_with fail
    go_ret2
    exact ⟨by rw [HR.out]; rfl, HW2.out⟩
  | some ls =>
    obtain ⟨n, hn, hv⟩ := tv_of hl
    obtain ⟨m, hm⟩ : ∃ m, t.par.length = m := ⟨_, rfl⟩
    have HRO : Hid (rootsO t = some (rootsL t n m ls)) := by show _ = _; rw [rootsO_some hl, hn, hm, Int.toNat_natCast]
    rw [chk_some hl]
    rw [hm] at hv
    have HR : Hid (txtO t = some (fTxt (frs t n m ls))) := txtO_tv hv
    have hcf := frs_cf hv (fun x hx => H64.out x (by rw [hv.hl]; exact hx))
    have HLEN : Hid ((fTxt (frs t n m ls)).length ≤ 204800) := by
      have h1 := fTxt_len (frs t n m ls) (fun b hb => hcf.fit b hb)
      have h2 := hcf.lvs
      have h3 := hcf.n4
      show _ ≤ _
      omega
    have HV := Lib.hid hv
    have HM := Lib.hid hm
    have HN := Lib.hid hn
    have HROOT : Hid (∀ i (hi : i < (rootsL t n m ls).length), (rootsL t n m ls)[i] < m) := fun i hi => ((roots_mem hv).1 (List.getElem_mem hi)).1
    clear hl hn hm hv hcf
    go_upto_region 6 with fail
    have hb3 : Below w2.heap.size w2 ((w2.alloc (.cells #[.slice none 0 0] 56)).alloc (.cells #[.nilFunc] 100)) := ((Below.refl _ _).alloc (Nat.le_refl _) _).alloc (by simp) _
    have HW3 := Lib.hid (bel_then HW2.out hb3)
    have HB3 := Lib.hid (Blk.below HB2.out hb3 (Blk.lt HB2.out))
    have HT4 := Lib.hid (HT3.out.below hb3)
    have HX1 := Lib.hid ((Blk.new w2 56 [.slice none 0 0]).alloc (.cells #[.nilFunc] 100))
    have HX2 := Lib.hid (Blk.new' (w2.alloc (.cells #[.slice none 0 0] 56)) 100 [.nilFunc] (n := w2.heap.size + 1) (by simp))
    have HSZ := Lib.hid HW2.out.size
    clear hb3
    generalize (w2.alloc (.cells #[.slice none 0 0] 56)).alloc (.cells #[.nilFunc] 100) = w3 at *
    have c0 := TBox.c0 HB3.out
    have c1 := TBox.c1 HB3.out
    have c2 := TBox.c2 HB3.out
    have c3 := TBox.c3 HB3.out
    have c4 := TBox.c4 HB3.out
    have c5 := TBox.c5 HB3.out
    have x0 := HX2.out.cell (i := 0) rfl
    have x1 := HX2.out.free 0
    go_upto_region 7 with fail
    have hs3 : w2.heap.size + 1 < w3.heap.size := HX2.out.lt
    obtain ⟨X4, hX4⟩ : ∃ X4, w3.setCell ⟨w2.heap.size + 1, 0, none⟩ (fnV w.heap.size w2.heap.size (w2.heap.size + 1)) = X4 := ⟨_, rfl⟩
    have hm4 : Mod (fun x => x = w2.heap.size + 1) w3 X4 := by rw [← hX4]; exact Mod.setCell (Mod.refl (fun x => x = w2.heap.size + 1) w3) ⟨w2.heap.size + 1, 0, none⟩ (fun _ => rfl) _
    have HX4a : Hid (Blk X4 (w2.heap.size + 1) 100 [fnV w.heap.size w2.heap.size (w2.heap.size + 1)]) := by
      have := HX2.out.set 0 (fnV w.heap.size w2.heap.size (w2.heap.size + 1))
      rw [hX4] at this
      exact this
    have HX4b := Lib.hid (HX1.out.mod hm4 (by omega))
    have HX4c : Hid (TBox X4 w.heap.size A t) := Blk.mod HB3.out hm4 (by have := HSZ.out; have := HB2.out.lt; omega)
    have HW4 := Lib.hid (bel_mod HW3.out hm4 (fun x e => by have := HSZ.out; omega))
    have HT5 := Lib.hid (HT.out.below HW4.out)
    clear x0 x1 hm4 c0 c1 c2 c3 c4 c5
    unfold fnV at hX4
    rw [hX4]
    clear hX4
    have c0 := TBox.c0 HX4c.out
    have c1 := TBox.c1 HX4c.out
    have c2 := TBox.c2 HX4c.out
    have c3 := TBox.c3 HX4c.out
    have c4 := TBox.c4 HX4c.out
    have c5 := TBox.c5 HX4c.out
    go_wp2_with fail
    with_reducible refine (roots_ok _ A t HT5.out).mono ?_
    rintro e w5 ⟨_, hgood, hb⟩
    obtain ⟨rv, rfl, hro, _⟩ := hgood _ HRO.out
    obtain ⟨R, HRL⟩ : ∃ R, Hid ((rootsL t n m ls).length = R) := ⟨_, rfl⟩
    rw [HRL.out] at hro
    have hR8 : R ≤ 8192 := by
      have := roots_le (t := t)
      rw [HRO.out] at this
      rw [← HRL.out]; exact this
    obtain ⟨ra, rcap, rb, rfl, _, _⟩ := own_rowN hro HRL.out
    have HI0 : Hid (TxI w A t (fun W => W.ownsRow 0 3 1 (.slice ra R rcap) R (natV (rootsL t n m ls))) w.heap.size w2.heap.size (w2.heap.size + 1) (fTxt ((frs t n m ls).take 0)) (.slice none 0 0) w5) := by
      have hs := HSZ.out
      refine ⟨Blk.below HX4c.out hb (Blk.lt HX4c.out), HX4b.out.below hb HX4b.out.lt, HX4a.out.below hb HX4a.out.lt, World.ownsRow_nil _ _ _ _, bel_then HW4.out hb, Nat.le_refl _, hs, by omega, hro, fun W W' hk h => owns_kh h (fun b T' cs e q => ?_)⟩
      subst e
      exact hk b _ cs (by decide) (by decide) q
    have HFL : Hid ((frs t n m ls).length = R) := by show _ = _; unfold frs; rw [List.length_map]; exact HRL.out
    clear hgood hb hro c0 c1 c2 c3 c4 c5 HX4a HX4b HX4c HX1 HX2 HB3 HT5 HT4 HW4
    go_wp2_with fail
    go_loopw [18] (fun s wr => ∃ i : Nat, i ≤ R ∧ s = .int .i64 (i : Int) ∧ ∃ v, TxI w A t (fun W => W.ownsRow 0 3 1 (.slice ra R rcap) R (natV (rootsL t n m ls))) w.heap.size w2.heap.size (w2.heap.size + 1) (fTxt ((frs t n m ls).take i)) v wr) (fun s _ => R - (intOf s).toNat)
    case atStart => exact ⟨0, Nat.zero_le _, rfl, _, HI0.out⟩
    case round =>
      obtain ⟨i, hi, rfl, v, hinv⟩ := hrel
      obtain ⟨vo, vc, rfl⟩ := owns_slice (owns_0 hinv.own)
      have HI := Lib.hid hinv
      clear hinv HI0
      by_cases hiR : i < R
      · have hiL : i < (rootsL t n m ls).length := by rw [HRL.out]; exact hiR
        obtain ⟨x, HX⟩ : ∃ x, Hid ((rootsL t n m ls)[i]'hiL = x) := ⟨(rootsL t n m ls)[i]'hiL, rfl⟩
        have hxm : x < m := by have := HROOT.out i hiL; rw [HX.out] at this; exact this
        have HF : Hid (fTxt ((frs t n m ls).take (i + 1)) = fTxt ((frs t n m ls).take i) ++ (bt t n x).txt ++ [59]) := by
          show _ = _
          rw [fTxt_pre (by rw [HFL.out]; exact hiR)]
          have e : (frs t n m ls)[i]'(by rw [HFL.out]; exact hiR) = bt t n x := by
            unfold frs
            rw [List.getElem_map, HX.out]
          rw [e]
        have HLE : Hid ((fTxt ((frs t n m ls).take i)).length + ((bt t n x).txt.length + 1) ≤ 204800) := by
          have h1 := fTxt_take_le (frs t n m ls) (i + 1)
          rw [HF.out, List.length_append, List.length_append] at h1
          have h2 := HLEN.out
          have h3 : ([59] : List UInt8).length = 1 := rfl
          show _ ≤ _
          omega
        obtain ⟨ra2, rc2, rb2, hrv, hir, _⟩ := own_rowN HI.out.kk HRL.out
        injection hrv with q1 _ q3
        subst q1 q3
        have r1 := hir.cell i hiR
        have r0 := hir.adr (by omega)
        rw [nI_at hiL, show (rootsL t n m ls).getD i 0 = x by rw [List.getD_eq_getElem?_getD, List.getElem?_eq_getElem hiL, HX.out]; rfl] at r1
        subst r0
        rw [Nat.zero_add] at r1
        obtain ⟨T, hT⟩ : ∃ T, fTxt ((frs t n m ls).take i) = T := ⟨_, rfl⟩
        rw [hT] at HI HF HLE
        clear hT hir HX hiL
        have t1 : (i : Int) < (R : Int) := by omega
        have t2 : (0 : Int) ≤ (i : Int) := by omega
        have d1 := HI.out.fn.cell (i := 0) rfl
        unfold fnV at d1
        have HWR := Lib.hid (write_ok w HP.out A t HT.out n m ls HV.out (fun y hy => H64.out y (by rw [HV.out.hl]; exact hy)) _ w.heap.size w2.heap.size (w2.heap.size + 1) x hxm _ T _ HI.out (by have := HLE.out; omega))
        go_wp2_with fail
        refine HWR.out.mono ?_
        rintro e W6 ⟨rfl, v6, hi6⟩
        obtain ⟨T6, hT6⟩ : ∃ T6, T ++ (bt t n x).txt = T6 := ⟨_, rfl⟩
        have HL6 : Hid (T6.length + 1 ≤ 204800) := by rw [← hT6, List.length_append]; have := HLE.out; show _ ≤ _; omega
        rw [hT6] at hi6 HF
        obtain ⟨o6, k6, rfl⟩ := owns_slice (owns_0 hi6.own)
        have HI6 := Lib.hid hi6
        have d0 := hi6.tx.cell (i := 0) rfl
        clear hi6 hT6 d1 r1 HWR HI
        have HOW := Lib.hid ((owns_0 HI6.out.own).alloc (.cells #[.int .u8 59] 5))
        have HNW := Lib.hid (news_new W6 5 [.int .u8 59])
        have hl0 : T6.length ≤ 204800 := by have := HL6.out; omega
        go_wp2_with (at_builtin; apply keepIt)
        apply Lib.hid
        refine wpList_appendB 5 (.int .u8 0) 1 1 Tryz.underlying56 Tryz.infoByte rfl (by decide) (.slice o6 T6.length k6) T6.length (Lib.byteCells T6) rfl HOW.out ⟨W6.heap.size, 0, none⟩ 1 1 [.int .u8 59] rfl rfl HNW.out (by simp [Value.oneCell']) (by unfold maxLen; omega) (by omega) ?_
        intro v7 W7 ho hg hn
        obtain ⟨a7, k7, rfl⟩ := owns_slice ho
        obtain ⟨⟨c2, f2⟩, hi7⟩ := HI6.out.app (new := [59]) (bel_alloc W6 _) ho hg hn
        have HI7 := Lib.hid hi7
        clear ho hg hn hi7 HOW HNW d0
        go_wp2_with fail
        go_roundw
        case rel => exact ⟨i + 1, by omega, by go_num, _, by rw [HF.out]; exact HI7.out⟩
        case measure => simp [intOf]; omega
      · obtain rfl : i = R := by omega
        have d0 := HI.out.tx.cell (i := 0) rfl
        have hfull : (frs t n m ls).take i = frs t n m ls := List.take_of_length_le (by rw [HFL.out]; exact Nat.le_refl _)
        have hcv := conv_own HI.out.own
        generalize HLE : (fTxt ((frs t n m ls).take i)).length = le at *
        go_wp2_with fail
        go_ret2
        refine ⟨?_, HI.out.bel⟩
        rw [HR.out, ← hfull]
        rfl

end Go.Proofs.YthacjealoomioaaGreatDoor

/- dendro: Same. -/
namespace Go.Proofs.YthacjealoomioaaGreatDoor
set_option linter.unusedVariables false
set_option linter.unusedSimpArgs false
open Go.RowKit

theorem Pow10.up {w w' : World} (h : Pow10 w.heap.size w) (hb : Below w.heap.size w w') : Pow10 w'.heap.size w' := fun w2 h2 => h w2 (hb.trans (h2.mono hb.size))

def smB (a b : Option (List UInt8)) : Bool := match a, b with | some x, some y => decide (x = y) | _, _ => false

set_option maxHeartbeats 8000000 in
set_option maxRecDepth 100000 in
theorem dsame_ok (w : World) (hP : Pow10 w.heap.size w) (A A' : TA) (t u : Tr) (ht : TreeAt w A t) (ht' : TreeAt w A' u) (h64 : Hgt64 t) (k64 : Hgt64 u) : Calls Tryz.prog 19 #[A.agg t, A'.agg u] w (RetB (.bool (smB (txtO t) (txtO u))) w) := by
  have HW1 := Lib.hid (bel_alloc w (.cells #[.int .i64 t.lv, .slice A.l.o t.left.length A.l.c, .slice A.r.o t.right.length A.r.c, .slice A.p.o t.par.length A.p.c, .slice A.h.o t.hgt.length A.h.c, .slice A.s.o t.siz.length A.s.c] 27))
  have HW2 := Lib.hid (bel_alloc (w.alloc (.cells #[.int .i64 t.lv, .slice A.l.o t.left.length A.l.c, .slice A.r.o t.right.length A.r.c, .slice A.p.o t.par.length A.p.c, .slice A.h.o t.hgt.length A.h.c, .slice A.s.o t.siz.length A.s.c] 27)) (.cells #[.int .i64 u.lv, .slice A'.l.o u.left.length A'.l.c, .slice A'.r.o u.right.length A'.r.c, .slice A'.p.o u.par.length A'.p.c, .slice A'.h.o u.hgt.length A'.h.c, .slice A'.s.o u.siz.length A'.s.c] 27))
  have HX := Lib.hid (Blk.below (TBox.new w A t) HW2.out (Blk.lt (TBox.new w A t)))
  have HY := Lib.hid (TBox.new1 w (.cells #[.int .i64 t.lv, .slice A.l.o t.left.length A.l.c, .slice A.r.o t.right.length A.r.c, .slice A.p.o t.par.length A.p.c, .slice A.h.o t.hgt.length A.h.c, .slice A.s.o t.siz.length A.s.c] 27) A' u)
  have HW := Lib.hid (bel_then HW1.out HW2.out)
  have HT := Lib.hid (ht.below HW.out)
  have HT' := Lib.hid (ht'.below HW.out)
  have HPW := Lib.hid (hP.up HW.out)
  have H1 := Lib.hid h64
  obtain ⟨o1, HO1⟩ : ∃ o, Hid (txtO t = o) := ⟨_, rfl⟩
  obtain ⟨o2, HO2⟩ : ∃ o, Hid (txtO u = o) := ⟨_, rfl⟩
  rw [HO1.out, HO2.out]
  have H2 := Lib.hid k64
  have c0 := TBox.c0 HX.out
  have c1 := TBox.c1 HX.out
  have c2 := TBox.c2 HX.out
  have c3 := TBox.c3 HX.out
  have c4 := TBox.c4 HX.out
  have c5 := TBox.c5 HX.out
  clear ht ht' HW1 HW2 hP h64 k64
  show Calls _ _ #[.agg #[.int .i64 t.lv, .slice A.l.o t.left.length A.l.c, .slice A.r.o t.right.length A.r.c, .slice A.p.o t.par.length A.p.c, .slice A.h.o t.hgt.length A.h.c, .slice A.s.o t.siz.length A.s.c], .agg #[.int .i64 u.lv, .slice A'.l.o u.left.length A'.l.c, .slice A'.r.o u.right.length A'.r.c, .slice A'.p.o u.par.length A'.p.c, .slice A'.h.o u.hgt.length A'.h.c, .slice A'.s.o u.siz.length A'.s.c]] _ _
  go_enter Tryz.func19, Tryz.ntmps19
  go_wp2_with fail
  generalize w.heap.size + 1 = y at *
  generalize hxe : w.heap.size = x at *
  have HXE := Lib.hid hxe
  clear hxe
  generalize (w.alloc (.cells #[.int .i64 t.lv, .slice A.l.o t.left.length A.l.c, .slice A.r.o t.right.length A.r.c, .slice A.p.o t.par.length A.p.c, .slice A.h.o t.hgt.length A.h.c, .slice A.s.o t.siz.length A.s.c] 27)).alloc (.cells #[.int .i64 u.lv, .slice A'.l.o u.left.length A'.l.c, .slice A'.r.o u.right.length A'.r.c, .slice A'.p.o u.par.length A'.p.c, .slice A'.h.o u.hgt.length A'.h.c, .slice A'.s.o u.siz.length A'.s.c] 27) = W at *
  have hcon := text_ok W HPW.out A t HT.out H1.out
  rw [HO1.out] at hcon
  with_reducible refine hcon.mono ?_
  rintro e w2 ⟨rfl, hb⟩
  have HB2 := Lib.hid hb
  have HY2 := Lib.hid (Blk.below HY.out hb (Blk.lt HY.out))
  have HT2 := Lib.hid (HT'.out.below hb)
  have HP2 := Lib.hid (HPW.out.up hb)
  clear hb c0 c1 c2 c3 c4 c5 HX HT HPW hcon HO1
  cases o1 with
  | none =>
    rw [txR]
    go_wp2_with fail
    go_ret
    exact ⟨rfl, by have h := HW.out; rw [← HXE.out] at h; exact bel_then h HB2.out⟩
  | some l1 =>
    rw [txR]
    have d0 := TBox.c0 HY2.out
    have d1 := TBox.c1 HY2.out
    have d2 := TBox.c2 HY2.out
    have d3 := TBox.c3 HY2.out
    have d4 := TBox.c4 HY2.out
    have d5 := TBox.c5 HY2.out
    go_wp2_with fail
    have hcon := text_ok w2 HP2.out A' u HT2.out H2.out
    rw [HO2.out] at hcon
    with_reducible refine hcon.mono ?_
    rintro e w3 ⟨rfl, hb⟩
    have HB3 : Hid (Below w.heap.size w w3) := by have h := HW.out; rw [← HXE.out] at h; exact bel_then h (bel_then HB2.out hb)
    clear hb d0 d1 d2 d3 d4 d5 hcon HO2
    cases o2 with
    | none =>
      rw [txR]
      go_wp2_with fail
      go_ret
      exact ⟨rfl, HB3.out⟩
    | some l2 =>
      rw [txR]
      have HS : Hid (smB (some l1) (some l2) = (l1 == l2)) := by
        show decide (l1 = l2) = _
        by_cases h : l1 = l2
        · subst h; simp
        · rw [decide_eq_false h, eq_comm, beq_eq_false_iff_ne]; exact h
      go_wp2_with fail
      go_ret
      exact ⟨by rw [HS.out]; rfl, HB3.out⟩

end Go.Proofs.YthacjealoomioaaGreatDoor
