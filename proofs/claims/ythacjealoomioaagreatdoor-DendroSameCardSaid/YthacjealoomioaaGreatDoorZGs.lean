/- DmQ, DlB. -/
import Derived.Test.YthacjealoomioaaGreatDoorZGp
import Derived.Test.YthacjealoomioaaGreatDoorZDmV
import Derived.Test.YthacjealoomioaaGreatDoorZGo
import Derived.Test.YthacjealoomioaaGreatDoorZDmA
import Derived.Test.YthacjealoomioaaGreatDoorZGr
import Derived.Test.YthacjealoomioaaGreatDoorZDmC
import Derived.Test.YthacjealoomioaaGreatDoorZGc2
import Derived.Test.YthacjealoomioaaGreatDoorZGl
import Derived.Deep.RegionHeld3
/- dendro: Parse. (printed by dmq.py) -/
namespace Go.Proofs.YthacjealoomioaaGreatDoor
set_option linter.unusedVariables false
set_option linter.unusedSimpArgs false
open Go.RowKit

def BB.taD (B : BB) (m : Nat) : TA := ⟨⟨some ⟨B.lb, 0, none⟩, B.lb, 0, m⟩, ⟨some ⟨B.rb, 0, none⟩, B.rb, 0, m⟩, ⟨some ⟨B.pb, 0, none⟩, B.pb, 0, m⟩, ⟨some ⟨B.hb, 0, none⟩, B.hb, 0, m⟩, ⟨some ⟨B.sb, 0, none⟩, B.sb, 0, m⟩⟩
theorem row_blkD {w : World} {b : Nat} {T : TypeId} {l : List Int} (h : Blk w b T (intV l)) : InRow .i64 w (some ⟨b, 0, none⟩) l.length b 0 l :=
  ⟨rfl, fun _ => rfl, fun i hi => by rw [Nat.zero_add]; exact blkIV h hi⟩
theorem BdT.treeD {w : World} {B : BB} {n m : Nat} {t : Tr} (h : BdT w B n m t) (hlv : -9223372036854775808 ≤ t.lv ∧ t.lv ≤ 9223372036854775807) (hm : m ≤ 9223372036854775807) : TreeAt w (B.taD m) t :=
  ⟨row_blkD h.l, row_blkD h.r, row_blkD h.p, row_blkD h.h, row_blkD h.s, ⟨by rw [h.ll]; exact hm, by rw [h.rl]; exact hm, by rw [h.pl]; exact hm, by rw [h.hl]; exact hm, by rw [h.sl]; exact hm⟩, hlv⟩

/-- What Parse returns. -/
structure PsPost (w : World) (o : Option Tr) (e : Ending) (w' : World) : Prop where
  bad : o = none → e = .returned (.tuple #[.agg #[.int .i64 0, .slice none 0 0, .slice none 0 0, .slice none 0 0, .slice none 0 0, .slice none 0 0], .int .i64 15])
  ok : ∀ t, o = some t → ∃ A : TA, e = .returned (.tuple #[A.agg t, .int .i64 0]) ∧ TreeAt w' A t ∧ t.hgt.length ≤ A.h.c ∧ Hgt64 t ∧ ∀ k, A.has t k → w.heap.size ≤ k
  bel : Below w.heap.size w w'
theorem keep_no {l : List UInt8} {t : Tr} (h : txtO t ≠ some l) : keepT l (some t) = none := if_neg h
theorem keep_yes {l : List UInt8} {t : Tr} (h : txtO t = some l) : keepT l (some t) = some t := if_pos h

set_option maxHeartbeats 16000000 in
set_option maxRecDepth 100000 in
theorem dparse_ok (w : World) (hE : ErrV w) (hP : Pow10 w.heap.size w) (s : ByteArray) (hs : s.size ≤ 1000000) : Calls Tryz.prog 16 #[.string s] w (PsPost w (keepT s.data.toList (progT (runB s.data.toList 0 s.data.toList rd0)))) := by
  have HEV := Lib.hid hE
  have HPW := Lib.hid hP
  clear hE hP
  obtain ⟨l, HL⟩ : ∃ l, Hid (s.data.toList = l) := ⟨_, rfl⟩
  rw [HL.out]
  have HW := Lib.hid (bel_alloc w (.cells #[.int .i64 0, .slice none 0 0, .slice none 0 0, .slice none 0 0, .slice none 0 0, .slice none 0 0] 27))
  have HR0 := Lib.hid (Blk.new w 27 [.int .i64 0, .slice none 0 0, .slice none 0 0, .slice none 0 0, .slice none 0 0, .slice none 0 0])
  go_enter Tryz.func16, Tryz.ntmps16
  go_wp2_with fail
  generalize (w.alloc (.cells #[.int .i64 0, .slice none 0 0, .slice none 0 0, .slice none 0 0, .slice none 0 0, .slice none 0 0] 27)) = w1 at *
  with_reducible refine (read_ok w1 (HEV.out.below HW.out) s hs).mono ?_
  rintro e w2 ⟨io, rp, st, jv, sv, b, rfl, hro, hend⟩
  rw [HL.out] at hend
  have HB2 := Lib.hid (bel_then HW.out hro.bel)
  have HR2 := Lib.hid (HR0.out.below hro.bel HR0.out.lt)
  have HRO := Lib.hid hro
  have HEN := Lib.hid hend
  clear hro hend HR0
  cases b with
  | false =>
    have HRX := HR2
    have HBX := HB2
    have HN : Hid (keepT l (progT (runB l 0 l rd0)) = none) := by show _ = _; rw [HEN.out.fl rfl]; rfl
    go_wp2_with (with_reducible refine wpList_storeBlk w.heap.size 27 [.int .i64 0, .slice none 0 0, .slice none 0 0, .slice none 0 0, .slice none 0 0, .slice none 0 0] [.int .i64 0, .slice none 0 0, .slice none 0 0, .slice none 0 0, .slice none 0 0, .slice none 0 0] rfl rfl HRX.out rfl (by kernel_rfl) (by decide) ?_)
    intro wz hbz hmz
    have HF : Hid (Below w.heap.size w wz) := bel_mod HBX.out hmz (fun x e => by rw [e]; exact Nat.le_refl _)
    have d0 := hbz.cell (i := 0) rfl
    have d1 := hbz.cell (i := 1) rfl
    have d2 := hbz.cell (i := 2) rfl
    have d3 := hbz.cell (i := 3) rfl
    have d4 := hbz.cell (i := 4) rfl
    have d5 := hbz.cell (i := 5) rfl
    clear hbz hmz
    go_wp2_with fail
    refine bodyPost_ret (v := .tuple #[.agg #[.int .i64 0, .slice none 0 0, .slice none 0 0, .slice none 0 0, .slice none 0 0, .slice none 0 0], .int .i64 15]) (by simp [results, Tryz.results16, go_sem, d0, d1, d2, d3, d4, d5]) rfl ?_
    exact ⟨fun _ => rfl, fun t ht => (by rw [HN.out] at ht; cases ht), HF.out⟩
  | true =>
    go_wp2_with fail
    with_reducible refine (tree_ok w1 io rp st jv sv w2 HRO.out l l.length (HEN.out.tr rfl).2.2).mono ?_
    rintro e w3 ⟨hbad, hok, hb⟩
    have HB3 := Lib.hid (bel_then HB2.out hb)
    have HR3 := Lib.hid (HR2.out.below hb HR2.out.lt)
    have HPG : Hid (progT (runB l 0 l rd0) = treeTo st.leaves st.joints st.joints.length) := by
      obtain ⟨h1, h2, _⟩ := HEN.out.tr rfl
      show _ = _
      rw [h1]
      unfold progT
      rw [if_pos ⟨rfl, h2⟩]
    have HH64 : Hid (∀ t, treeTo st.leaves st.joints st.joints.length = some t → Hgt64 t) := fun t ht => (HEN.out.tr rfl).2.2.prog64 (b := true) (by rw [← (HEN.out.tr rfl).1, HPG.out]; exact ht)
    have HLV : Hid (st.leaves ≤ 4096 ∧ st.joints.length ≤ 4096) := by
      have h := (HEN.out.tr rfl).2.2
      have h1 := h.lv
      have h2 := h.cn
      exact ⟨h1, by omega⟩
    have HR2S : Hid (w.heap.size < w2.heap.size) := HR2.out.lt
    clear hb HB2 HR2 HRO HEN
    cases htt : treeTo st.leaves st.joints st.joints.length with
    | none =>
      obtain rfl := hbad htt
      have HTT := Lib.hid htt
      clear hbad hok htt
      go_upto_region 6 with fail
      have HBX := Lib.hid (bel_then HB3.out (bel_alloc w3 (.cells #[.int .i64 0, .slice none 0 0, .slice none 0 0, .slice none 0 0, .slice none 0 0, .slice none 0 0] 27)))
      have HRX := Lib.hid (HR3.out.below (bel_alloc w3 (.cells #[.int .i64 0, .slice none 0 0, .slice none 0 0, .slice none 0 0, .slice none 0 0, .slice none 0 0] 27)) HR3.out.lt)
      have HN : Hid (keepT l (progT (runB l 0 l rd0)) = none) := by show _ = _; rw [HPG.out, HTT.out]; rfl
      go_wp2_with (with_reducible refine wpList_storeBlk w.heap.size 27 [.int .i64 0, .slice none 0 0, .slice none 0 0, .slice none 0 0, .slice none 0 0, .slice none 0 0] [.int .i64 0, .slice none 0 0, .slice none 0 0, .slice none 0 0, .slice none 0 0, .slice none 0 0] rfl rfl HRX.out rfl (by kernel_rfl) (by decide) ?_)
      intro wz hbz hmz
      have HF : Hid (Below w.heap.size w wz) := bel_mod HBX.out hmz (fun x e => by rw [e]; exact Nat.le_refl _)
      have d0 := hbz.cell (i := 0) rfl
      have d1 := hbz.cell (i := 1) rfl
      have d2 := hbz.cell (i := 2) rfl
      have d3 := hbz.cell (i := 3) rfl
      have d4 := hbz.cell (i := 4) rfl
      have d5 := hbz.cell (i := 5) rfl
      clear hbz hmz
      go_wp2_with fail
      refine bodyPost_ret (v := .tuple #[.agg #[.int .i64 0, .slice none 0 0, .slice none 0 0, .slice none 0 0, .slice none 0 0, .slice none 0 0], .int .i64 15]) (by simp [results, Tryz.results16, go_sem, d0, d1, d2, d3, d4, d5]) rfl ?_
      exact ⟨fun _ => rfl, fun t ht => (by rw [HN.out] at ht; cases ht), HF.out⟩
    | some t =>
      obtain ⟨B, rfl, hbt, hbm⟩ := hok t htt
      obtain ⟨tl, tlv⟩ := treeTo_len htt
      have HT64 := Lib.hid (HH64.out t htt)
      have HTT := Lib.hid htt
      obtain ⟨n, HN⟩ : ∃ n, Hid (st.leaves = n) := ⟨_, rfl⟩
      obtain ⟨m, HM⟩ : ∃ m, Hid (n + st.joints.length = m) := ⟨_, rfl⟩
      rw [HN.out] at hbt tlv HLV
      rw [HM.out] at hbt
      simp only [HN.out, HM.out]
      have hm : m ≤ 8192 := by have := HM.out; have := HLV.out; omega
      have hta := hbt.treeD (by rw [tlv]; have := HLV.out; omega) (by omega)
      have HAG : Hid ((B.taD m).agg t = .agg #[.int .i64 (n : Int), .slice (some ⟨B.lb, 0, none⟩) m m, .slice (some ⟨B.rb, 0, none⟩) m m, .slice (some ⟨B.pb, 0, none⟩) m m, .slice (some ⟨B.hb, 0, none⟩) m m, .slice (some ⟨B.sb, 0, none⟩) m m]) := by
        show Value.agg #[.int .i64 t.lv, .slice _ t.left.length _, .slice _ t.right.length _, .slice _ t.par.length _, .slice _ t.hgt.length _, .slice _ t.siz.length _] = _
        rw [tlv, hbt.ll, hbt.rl, hbt.pl, hbt.hl, hbt.sl]
        rfl
      have HHC : Hid (t.hgt.length ≤ (B.taD m).h.c) := by show _ ≤ _; rw [hbt.hl]; exact Nat.le_refl _
      have HOLD : Hid (∀ k, B.mem k → w.heap.size < k) := fun k hk => by
        have h1 := hbm k hk
        have h2 := HR2S.out
        omega
      have HNEW2 : Hid (∀ k, (B.taD m).has t k → w.heap.size < k) := by
        rintro k (⟨_, e⟩ | ⟨_, e⟩ | ⟨_, e⟩ | ⟨_, e⟩ | ⟨_, e⟩)
        all_goals
          have hmem : B.mem k := by
            unfold BB.mem
            subst e
            simp [BB.taD]
          exact HOLD.out k hmem
      have HNEW : Hid (∀ k, (B.taD m).has t k → w.heap.size ≤ k) := fun k hk => Nat.le_of_lt (HNEW2.out k hk)
      have HTA := Lib.hid hta
      clear hbad hok htt hbt hbm tl tlv hta
      have HBL := Lib.hid (bel_alloc w3 (.cells #[.int .i64 (n : Int), .slice (some ⟨B.lb, 0, none⟩) m m, .slice (some ⟨B.rb, 0, none⟩) m m, .slice (some ⟨B.pb, 0, none⟩) m m, .slice (some ⟨B.hb, 0, none⟩) m m, .slice (some ⟨B.sb, 0, none⟩) m m] 27))
      have HX := Lib.hid (Blk.new w3 27 [.int .i64 (n : Int), .slice (some ⟨B.lb, 0, none⟩) m m, .slice (some ⟨B.rb, 0, none⟩) m m, .slice (some ⟨B.pb, 0, none⟩) m m, .slice (some ⟨B.hb, 0, none⟩) m m, .slice (some ⟨B.sb, 0, none⟩) m m])
      have HB4 := Lib.hid (bel_then HB3.out HBL.out)
      have HR4 := Lib.hid (HR3.out.below HBL.out HR3.out.lt)
      have HTA4 := Lib.hid (HTA.out.below HBL.out)
      have HXS : Hid (w.heap.size < w3.heap.size) := HR3.out.lt
      go_upto_region 5 with fail
      clear HBL HR3 HB3 HTA
      generalize (w3.alloc (.cells #[.int .i64 (n : Int), .slice (some ⟨B.lb, 0, none⟩) m m, .slice (some ⟨B.rb, 0, none⟩) m m, .slice (some ⟨B.pb, 0, none⟩) m m, .slice (some ⟨B.hb, 0, none⟩) m m, .slice (some ⟨B.sb, 0, none⟩) m m] 27)) = w4 at *
      generalize w3.heap.size = xb at *
      have c0 := HX.out.cell (i := 0) rfl
      have c1 := HX.out.cell (i := 1) rfl
      have c2 := HX.out.cell (i := 2) rfl
      have c3 := HX.out.cell (i := 3) rfl
      have c4 := HX.out.cell (i := 4) rfl
      have c5 := HX.out.cell (i := 5) rfl
      have hT := text_ok w4 (HPW.out.up HB4.out) (B.taD m) t HTA4.out HT64.out
      rw [HAG.out] at hT
      go_wp2_with fail
      with_reducible refine hT.mono ?_
      rintro e w5 ⟨rfl, hb⟩
      have HB5 := Lib.hid (bel_then HB4.out hb)
      have HR5 := Lib.hid (HR4.out.below hb HR4.out.lt)
      have HX5 := Lib.hid (HX.out.below hb HX.out.lt)
      have HTA5 := Lib.hid (HTA4.out.below hb)
      clear hb hT c0 c1 c2 c3 c4 c5 HB4 HR4 HX HTA4
      have HRX := HR5
      have HBX := HB5
      cases hx : txtO t with
      | none =>
        have HXO := Lib.hid hx
        clear hx
        rw [txR]
        have HN : Hid (keepT l (progT (runB l 0 l rd0)) = none) := by show _ = _; rw [HPG.out, HTT.out]; exact keep_no (by rw [HXO.out]; simp)
        go_wp2_with (with_reducible refine wpList_storeBlk w.heap.size 27 [.int .i64 0, .slice none 0 0, .slice none 0 0, .slice none 0 0, .slice none 0 0, .slice none 0 0] [.int .i64 0, .slice none 0 0, .slice none 0 0, .slice none 0 0, .slice none 0 0, .slice none 0 0] rfl rfl HRX.out rfl (by kernel_rfl) (by decide) ?_)
        intro wz hbz hmz
        have HF : Hid (Below w.heap.size w wz) := bel_mod HBX.out hmz (fun x e => by rw [e]; exact Nat.le_refl _)
        have d0 := hbz.cell (i := 0) rfl
        have d1 := hbz.cell (i := 1) rfl
        have d2 := hbz.cell (i := 2) rfl
        have d3 := hbz.cell (i := 3) rfl
        have d4 := hbz.cell (i := 4) rfl
        have d5 := hbz.cell (i := 5) rfl
        clear hbz hmz
        go_wp2_with fail
        refine bodyPost_ret (v := .tuple #[.agg #[.int .i64 0, .slice none 0 0, .slice none 0 0, .slice none 0 0, .slice none 0 0, .slice none 0 0], .int .i64 15]) (by simp [results, Tryz.results16, go_sem, d0, d1, d2, d3, d4, d5]) rfl ?_
        exact ⟨fun _ => rfl, fun t ht => (by rw [HN.out] at ht; cases ht), HF.out⟩
      | some x =>
        have HXO := Lib.hid hx
        clear hx
        by_cases hxl : x = l
        · subst hxl
          have hsl : (⟨x.toArray⟩ : ByteArray) = s := by rw [← HL.out]
          rw [txR, hsl]
          have HN : Hid (keepT x (progT (runB x 0 x rd0)) = some t) := by show _ = _; rw [HPG.out, HTT.out]; exact keep_yes HXO.out
          have c0 := HX5.out.cell (i := 0) rfl
          have c1 := HX5.out.cell (i := 1) rfl
          have c2 := HX5.out.cell (i := 2) rfl
          have c3 := HX5.out.cell (i := 3) rfl
          have c4 := HX5.out.cell (i := 4) rfl
          have c5 := HX5.out.cell (i := 5) rfl
          clear hsl
          go_wp2_with (with_reducible refine wpList_storeBlk w.heap.size 27 [.int .i64 0, .slice none 0 0, .slice none 0 0, .slice none 0 0, .slice none 0 0, .slice none 0 0] [.int .i64 (n : Int), .slice (some ⟨B.lb, 0, none⟩) m m, .slice (some ⟨B.rb, 0, none⟩) m m, .slice (some ⟨B.pb, 0, none⟩) m m, .slice (some ⟨B.hb, 0, none⟩) m m, .slice (some ⟨B.sb, 0, none⟩) m m] rfl rfl HRX.out rfl (by kernel_rfl) (by simp [Value.oneCell']) ?_)
          intro wz hbz hmz
          have HF : Hid (Below w.heap.size w wz) := bel_mod HBX.out hmz (fun x e => by rw [e]; exact Nat.le_refl _)
          have HTF : Hid (TreeAt wz (B.taD m) t) := HTA5.out.mod hmz (fun k hk e => by have := HNEW2.out k hk; have h2 : k = w.heap.size := e; omega)
          clear c0 c1 c2 c3 c4 c5
          have d0 := hbz.cell (i := 0) rfl
          have d1 := hbz.cell (i := 1) rfl
          have d2 := hbz.cell (i := 2) rfl
          have d3 := hbz.cell (i := 3) rfl
          have d4 := hbz.cell (i := 4) rfl
          have d5 := hbz.cell (i := 5) rfl
          clear hbz hmz
          go_wp2_with fail
          refine bodyPost_ret (v := .tuple #[.agg #[.int .i64 (n : Int), .slice (some ⟨B.lb, 0, none⟩) m m, .slice (some ⟨B.rb, 0, none⟩) m m, .slice (some ⟨B.pb, 0, none⟩) m m, .slice (some ⟨B.hb, 0, none⟩) m m, .slice (some ⟨B.sb, 0, none⟩) m m], .int .i64 0]) (by simp [results, Tryz.results16, go_sem, d0, d1, d2, d3, d4, d5]) rfl ?_
          refine ⟨fun hh => (by rw [HN.out] at hh; cases hh), fun t2 ht2 => ?_, HF.out⟩
          rw [HN.out] at ht2
          injection ht2 with ht2
          subst ht2
          exact ⟨B.taD m, by rw [HAG.out], HTF.out, HHC.out, HT64.out, HNEW.out⟩
        · have hsl : (x == s.toList) = false := by
            rw [beq_eq_false_iff_ne, Lib.toList_data, HL.out]
            exact hxl
          have HXL := Lib.hid hxl
          clear hxl
          rw [txR]
          have HN : Hid (keepT l (progT (runB l 0 l rd0)) = none) := by show _ = _; rw [HPG.out, HTT.out]; exact keep_no (by rw [HXO.out]; intro e; injection e with e; exact HXL.out e)
          go_wp2_with (with_reducible refine wpList_storeBlk w.heap.size 27 [.int .i64 0, .slice none 0 0, .slice none 0 0, .slice none 0 0, .slice none 0 0, .slice none 0 0] [.int .i64 0, .slice none 0 0, .slice none 0 0, .slice none 0 0, .slice none 0 0, .slice none 0 0] rfl rfl HRX.out rfl (by kernel_rfl) (by decide) ?_)
          intro wz hbz hmz
          have HF : Hid (Below w.heap.size w wz) := bel_mod HBX.out hmz (fun x e => by rw [e]; exact Nat.le_refl _)
          have d0 := hbz.cell (i := 0) rfl
          have d1 := hbz.cell (i := 1) rfl
          have d2 := hbz.cell (i := 2) rfl
          have d3 := hbz.cell (i := 3) rfl
          have d4 := hbz.cell (i := 4) rfl
          have d5 := hbz.cell (i := 5) rfl
          clear hbz hmz
          go_wp2_with fail
          refine bodyPost_ret (v := .tuple #[.agg #[.int .i64 0, .slice none 0 0, .slice none 0 0, .slice none 0 0, .slice none 0 0, .slice none 0 0], .int .i64 15]) (by simp [results, Tryz.results16, go_sem, d0, d1, d2, d3, d4, d5]) rfl ?_
          exact ⟨fun _ => rfl, fun t ht => (by rw [HN.out] at ht; cases ht), HF.out⟩

end Go.Proofs.YthacjealoomioaaGreatDoor

/- The statements of layer 22: works. (printed by dlb.py) -/
namespace Go.Proofs.YthacjealoomioaaGreatDoor
set_option linter.unusedVariables false
set_option linter.unusedSimpArgs false
open Go.RowKit

theorem pw_ok (w : World) (hE : ErrV w) (hP : Pow10 w.heap.size w) : Calls Tryz.prog 16 #[.string { data := #[40, 48, 44, 40, 49, 44, 50, 41, 58, 51, 41, 58, 52, 59, 51, 59] }] w (PsPost w (some wT)) := by
  have := dparse_ok w hE hP ⟨#[40, 48, 44, 40, 49, 44, 50, 41, 58, 51, 41, 58, 52, 59, 51, 59]⟩ (by decide)
  have e : keepT (⟨#[40, 48, 44, 40, 49, 44, 50, 41, 58, 51, 41, 58, 52, 59, 51, 59]⟩ : ByteArray).data.toList (progT (runB (⟨#[40, 48, 44, 40, 49, 44, 50, 41, 58, 51, 41, 58, 52, 59, 51, 59]⟩ : ByteArray).data.toList 0 (⟨#[40, 48, 44, 40, 49, 44, 50, 41, 58, 51, 41, 58, 52, 59, 51, 59]⟩ : ByteArray).data.toList rd0)) = some wT := w_keep
  rw [e] at this
  exact this
theorem pv_ok (w : World) (hE : ErrV w) (hP : Pow10 w.heap.size w) : Calls Tryz.prog 16 #[.string { data := #[40, 49, 44, 48, 41, 58, 53, 59] }] w (PsPost w none) := by
  have := dparse_ok w hE hP ⟨#[40, 49, 44, 48, 41, 58, 53, 59]⟩ (by decide)
  have e : keepT (⟨#[40, 49, 44, 48, 41, 58, 53, 59]⟩ : ByteArray).data.toList (progT (runB (⟨#[40, 49, 44, 48, 41, 58, 53, 59]⟩ : ByteArray).data.toList 0 (⟨#[40, 49, 44, 48, 41, 58, 53, 59]⟩ : ByteArray).data.toList rd0)) = none := v_keep
  rw [e] at this
  exact this
theorem w_txR : txR (txtO wT) = .tuple #[.string { data := #[40, 48, 44, 40, 49, 44, 50, 41, 58, 51, 41, 58, 52, 59, 51, 59] }, .int .i64 0] := by rw [w_txt]; rfl
theorem w_cut : cutO wT 3 = (0, [0, 1, 1, 3]) := by
  unfold cutO
  rw [w_ls]
  decide
theorem w_mg : mgTo wT 4 [0, 1, 2, 3, 1, 0] 2 = [.int .i64 1, .int .i64 2, .int .i64 3, .int .i64 1, .int .i64 2, .int .i64 0, .int .i64 1, .int .i64 4, .int .i64 1, .int .i64 3] := by rfl
theorem w_gap : gapR wT = .tuple #[.int .i64 1, .int .u64 1, .int .i64 0] := by
  unfold gapR
  rw [w_ls]
  rfl
theorem w_cop : copR (copO wT 0 2) = .tuple #[.int .i64 4, .bool true] := by
  have e : copO wT 0 2 = some 4 := by
    unfold copO
    rw [w_ls]
    decide
  rw [e]
  rfl
/-- The tree's box. -/
def WBox (W : World) (x : Nat) (A : TA) : Prop := Blk W x 27 [.int .i64 4, .slice A.l.o 6 A.l.c, .slice A.r.o 6 A.r.c, .slice A.p.o 6 A.p.c, .slice A.h.o 6 A.h.c, .slice A.s.o 6 A.s.c]
theorem WBox.below {W W' : World} {x : Nat} {A : TA} (h : WBox W x A) (hb : Below W.heap.size W W') : WBox W' x A := Blk.below h hb (Blk.lt h)
theorem WBox.six {W : World} {x : Nat} {A : TA} (h : WBox W x A) : W.cell? ⟨x, 0, none⟩ = some (.int .i64 4) ∧ W.cell? ⟨x, 1, none⟩ = some (.slice A.l.o 6 A.l.c) ∧ W.cell? ⟨x, 2, none⟩ = some (.slice A.r.o 6 A.r.c) ∧ W.cell? ⟨x, 3, none⟩ = some (.slice A.p.o 6 A.p.c) ∧
    W.cell? ⟨x, 4, none⟩ = some (.slice A.h.o 6 A.h.c) ∧ W.cell? ⟨x, 5, none⟩ = some (.slice A.s.o 6 A.s.c) :=
  ⟨Blk.cell h (i := 0) rfl, Blk.cell h (i := 1) rfl, Blk.cell h (i := 2) rfl, Blk.cell h (i := 3) rfl, Blk.cell h (i := 4) rfl, Blk.cell h (i := 5) rfl⟩
/-- The two merges. -/
structure MBox (W : World) (b : Nat) : Prop where
  a : W.cell? ⟨b, 0, none⟩ = some (.int .i64 1)
  c : W.cell? ⟨b, 1, none⟩ = some (.int .i64 2)
  s : W.cell? ⟨b, 4, none⟩ = some (.int .i64 2)
  h : W.cell? ⟨b, 7, none⟩ = some (.int .i64 4)
theorem MBox.below {W W' : World} {b : Nat} (h : MBox W b) (hb : Below W.heap.size W W') : MBox W' b :=
  ⟨(hb.cell (World.block_lt_of_cell? W _ h.a)).trans h.a, (hb.cell (World.block_lt_of_cell? W _ h.c)).trans h.c, (hb.cell (World.block_lt_of_cell? W _ h.s)).trans h.s, (hb.cell (World.block_lt_of_cell? W _ h.h)).trans h.h⟩
theorem w_row {W : World} {v : Value} (h : W.ownsRow 0 51 5 v 2 [.int .i64 1, .int .i64 2, .int .i64 3, .int .i64 1, .int .i64 2, .int .i64 0, .int .i64 1, .int .i64 4, .int .i64 1, .int .i64 3]) : ∃ b c, v = .slice (some ⟨b, 0, none⟩) 2 c ∧ MBox W b := by
  obtain ⟨g, cap, rfl, hcap, _, _, hc, _⟩ := owns_form h (by decide)
  exact ⟨g, cap, rfl, ⟨by rw [hc 0 (by decide)]; rfl, by rw [hc 1 (by decide)]; rfl, by rw [hc 4 (by decide)]; rfl, by rw [hc 7 (by decide)]; rfl⟩⟩
theorem MBox.four {W : World} {b : Nat} (h : MBox W b) : W.cell? ⟨b, 0, none⟩ = some (.int .i64 1) ∧ W.cell? ⟨b, 1, none⟩ = some (.int .i64 2) ∧ W.cell? ⟨b, 4, none⟩ = some (.int .i64 2) ∧ W.cell? ⟨b, 7, none⟩ = some (.int .i64 4) := ⟨h.a, h.c, h.s, h.h⟩
set_option maxHeartbeats 16000000 in
set_option maxRecDepth 100000 in
theorem dworks_ok (w : World) (hE : ErrV w) (hP : Pow10 w.heap.size w) (hT64 : Tab64 w) : Calls Tryz.prog 13 #[] w (RetB (.bool true) w) := by
  have HE := Lib.hid hE
  have HP := Lib.hid hP
  have HQ := Lib.hid hT64
  clear hE hP hT64
  go_enter Tryz.func13, Tryz.ntmps13
  go_wp2_with fail
  with_reducible refine (pw_ok w HE.out HP.out).mono ?_
  rintro e w1 ⟨_, hok, hb⟩
  obtain ⟨A, rfl, ht, hc, h64, _⟩ := hok wT rfl
  have HAG : Hid (A.agg wT = .agg #[.int .i64 4, .slice A.l.o 6 A.l.c, .slice A.r.o 6 A.r.c, .slice A.p.o 6 A.p.c, .slice A.h.o 6 A.h.c, .slice A.s.o 6 A.s.c]) := rfl
  rw [HAG.out]
  have HBX := Lib.hid (bel_alloc w1 (.cells #[.int .i64 4, .slice A.l.o 6 A.l.c, .slice A.r.o 6 A.r.c, .slice A.p.o 6 A.p.c, .slice A.h.o 6 A.h.c, .slice A.s.o 6 A.s.c] 27))
  have HX : Hid (WBox (w1.alloc (.cells #[.int .i64 4, .slice A.l.o 6 A.l.c, .slice A.r.o 6 A.r.c, .slice A.p.o 6 A.p.c, .slice A.h.o 6 A.h.c, .slice A.s.o 6 A.s.c] 27)) w1.heap.size A) := Blk.new w1 27 [.int .i64 4, .slice A.l.o 6 A.l.c, .slice A.r.o 6 A.r.c, .slice A.p.o 6 A.p.c, .slice A.h.o 6 A.h.c, .slice A.s.o 6 A.s.c]
  have HT := Lib.hid (ht.below HBX.out)
  have HC := Lib.hid hc
  have H64 := Lib.hid h64
  have HB := Lib.hid (bel_then hb HBX.out)
  clear hok hb ht hc h64
  obtain ⟨c0, c1, c2, c3, c4, c5⟩ := HX.out.six
  go_upto_region 2 with fail
  clear HBX
  generalize w1.heap.size = xb at *
  generalize (w1.alloc (.cells #[.int .i64 4, .slice A.l.o 6 A.l.c, .slice A.r.o 6 A.r.c, .slice A.p.o 6 A.p.c, .slice A.h.o 6 A.h.c, .slice A.s.o 6 A.s.c] 27)) = W at *
  go_upto_region 4 with fail
  have hcon := text_ok W (HP.out.up HB.out) A wT HT.out H64.out
  rw [HAG.out, w_txR] at hcon
  go_wp2_with fail
  with_reducible refine hcon.mono ?_
  rintro e w2 ⟨rfl, hb⟩
  have HX2 := Lib.hid (HX.out.below hb)
  have HT2 := Lib.hid (HT.out.below hb)
  have HB2 := Lib.hid (bel_then HB.out hb)
  clear hb hcon c0 c1 c2 c3 c4 c5 HX HT HB
  obtain ⟨c0, c1, c2, c3, c4, c5⟩ := HX2.out.six
  have hcon := cut_ok w2 A wT HT2.out 3 (by decide)
  rw [HAG.out] at hcon
  go_wp2_with fail
  with_reducible refine hcon.mono ?_
  rintro e w3 ⟨_, hok, hb⟩
  obtain ⟨v, rfl, hown, _⟩ := hok (by rw [w_cut])
  rw [w_cut] at hown
  obtain ⟨a3, k3, b3, rfl, hin, _⟩ := own_rowN (n := 4) (l := [0, 1, 1, 3]) hown rfl
  have HI3 : Hid (InRow .i64 w3 a3 4 b3 0 [0, 1, 1, 3]) := hin
  clear hok hown hin
  have HX3 := Lib.hid (HX2.out.below hb)
  have HT3 := Lib.hid (HT2.out.below hb)
  have HB3 := Lib.hid (bel_then HB2.out hb)
  clear hb hcon c0 c1 c2 c3 c4 c5 HX2 HT2 HB2
  obtain ⟨c0, c1, c2, c3, c4, c5⟩ := HX3.out.six
  have hcon := merges_ok w3 A wT HT3.out
  rw [HAG.out] at hcon
  go_wp2_with fail
  with_reducible refine hcon.mono ?_
  rintro e w4 ⟨_, hok, hb⟩
  obtain ⟨v, rfl, hown, _⟩ := hok _ w_ls
  obtain ⟨b4, k4, rfl, hmb⟩ := w_row (v := v) (by have := hown; rw [show wT.par.length - wT.lv.toNat = 2 from rfl, show wT.lv.toNat = 4 from rfl, w_mg] at this; exact this)
  have HM4 := Lib.hid hmb
  clear hok hown hmb
  have HX4 := Lib.hid (HX3.out.below hb)
  have HT4 := Lib.hid (HT3.out.below hb)
  have HB4 := Lib.hid (bel_then HB3.out hb)
  have HI4 := Lib.hid (HI3.out.below hb)
  clear hb hcon c0 c1 c2 c3 c4 c5 HX3 HT3 HB3 HI3
  obtain ⟨c0, c1, c2, c3, c4, c5⟩ := HX4.out.six
  have hcon := gap_ok w4 A wT HT4.out HC.out
  rw [HAG.out, w_gap] at hcon
  go_wp2_with fail
  with_reducible refine hcon.mono ?_
  rintro e w5 ⟨rfl, hb⟩
  have HX5 := Lib.hid (HX4.out.below hb)
  have HT5 := Lib.hid (HT4.out.below hb)
  have HB5 := Lib.hid (bel_then HB4.out hb)
  have HI5 := Lib.hid (HI4.out.below hb)
  have HM5 := Lib.hid (HM4.out.below hb)
  clear hb hcon c0 c1 c2 c3 c4 c5 HX4 HT4 HB4 HI4 HM4
  obtain ⟨c0, c1, c2, c3, c4, c5⟩ := HX5.out.six
  have hcon := coph_ok w5 (HQ.out.below HB5.out) A wT HT5.out 0 2
  rw [HAG.out, w_cop] at hcon
  go_wp2_with fail
  with_reducible refine hcon.mono ?_
  rintro e w6 ⟨rfl, hb⟩
  have HX6 := Lib.hid (HX5.out.below hb)
  have HT6 := Lib.hid (HT5.out.below hb)
  have HB6 := Lib.hid (bel_then HB5.out hb)
  have HI6 := Lib.hid (HI5.out.below hb)
  have HM6 := Lib.hid (HM5.out.below hb)
  clear hb hcon c0 c1 c2 c3 c4 c5 HX5 HT5 HB5 HI5 HM5
  obtain ⟨c0, c1, c2, c3, c4, c5⟩ := HX6.out.six
  have hcon := pv_ok w6 (HE.out.below HB6.out) (HP.out.up HB6.out)
  go_wp2_with fail
  with_reducible refine hcon.mono ?_
  rintro e w7 ⟨hno, _, hb⟩
  obtain rfl := hno rfl
  clear hno
  have HX7 := Lib.hid (HX6.out.below hb)
  have HT7 := Lib.hid (HT6.out.below hb)
  have HB7 := Lib.hid (bel_then HB6.out hb)
  have HI7 := Lib.hid (HI6.out.below hb)
  have HM7 := Lib.hid (HM6.out.below hb)
  clear hb hcon c0 c1 c2 c3 c4 c5 HX6 HT6 HB6 HI6 HM6
  obtain ⟨c0, c1, c2, c3, c4, c5⟩ := HX7.out.six
  clear c0 c1 c2 c3 c4 c5
  have HBY := Lib.hid (bel_alloc w7 (.cells #[.int .i64 0, .slice none 0 0, .slice none 0 0, .slice none 0 0, .slice none 0 0, .slice none 0 0] 27))
  have HI8 := Lib.hid (HI7.out.below HBY.out)
  have HM8 := Lib.hid (HM7.out.below HBY.out)
  have HB8 := Lib.hid (bel_then HB7.out HBY.out)
  clear HI7 HM7 HB7 HX7 HT7
  go_upto_region 12 with fail
  clear HBY
  generalize (w7.alloc (.cells #[.int .i64 0, .slice none 0 0, .slice none 0 0, .slice none 0 0, .slice none 0 0, .slice none 0 0] 27)) = w8 at *
  have HR : Hid (InRow .i64 (w8.alloc (.cells #[.int .i64 0, .int .i64 1, .int .i64 1, .int .i64 3] 3)) (some ⟨w8.heap.size, 0, none⟩) 4 w8.heap.size 0 [0, 1, 1, 3]) := row_lit (l := [0, 1, 1, 3]) rfl
  have HBL := Lib.hid (bel_alloc w8 (.cells #[.int .i64 0, .int .i64 1, .int .i64 1, .int .i64 3] 3))
  go_wp2_with fail
  with_reducible refine (rsame_ok _ a3 (some ⟨w8.heap.size, 0, none⟩) 4 k3 4 b3 w8.heap.size 0 0 [0, 1, 1, 3] (HI8.out.below HBL.out) HR.out (by decide)).mono ?_
  rintro e w9 ⟨rfl, hb⟩
  have HB9 := Lib.hid (bel_then HB8.out (bel_then HBL.out hb))
  obtain ⟨m0, m1, m2, m3⟩ := (HM8.out.below (bel_then HBL.out hb)).four
  clear hb HR HBL HB8 HM8 HI8
  go_wp2_with fail
  go_ret
  exact ⟨rfl, HB9.out⟩

end Go.Proofs.YthacjealoomioaaGreatDoor
