/- DpP. -/
import Derived.Test.YthacjealoomioaaGreatDoorZDpM
import Derived.Test.YthacjealoomioaaGreatDoorZGt
import Derived.Test.YthacjealoomioaaGreatDoorZGu
import Derived.Test.YthacjealoomioaaGreatDoorZGs
import Derived.Test.YthacjealoomioaaGreatDoorZGc2
/- The reference's reader of texts: Parse. -/
namespace Go.Proofs.YthacjealoomioaaGreatDoor
set_option linter.unusedVariables false
set_option linter.unusedSimpArgs false
open Go.RowKit

theorem madeTo_h64 {n : Nat} {J : List Jt} (hJ : ∀ j ∈ J, In64 j.h) : ∀ {i : Nat} {t : Tr}, i ≤ J.length → madeTo n J i = some t → Hgt64 t
  | 0, t, hi, h => by
    injection h with h
    subst h
    intro x hx
    unfold t0R at hx ⊢
    simp only [List.length_replicate] at hx
    simp only
    rw [gi_rep hx]
    unfold In64
    omega
  | i + 1, t, hi, h => by
    rw [madeTo] at h
    cases hp : madeTo n J i with
    | none => rw [hp] at h; cases h
    | some t0 =>
      rw [hp] at h
      simp only at h
      split at h
      · injection h with h
        subst h
        have ih := madeTo_h64 hJ (by omega) hp
        have hlt : (ordJ J).getD i 0 < J.length := ordJ_at_lt (by omega)
        generalize (ordJ J).getD i 0 = q at *
        intro x hx
        unfold putJ at hx ⊢
        simp only [List.length_set] at hx ⊢
        have hj : In64 (JA J q).h := hJ _ (by
          unfold JA
          rw [List.getD_eq_getElem?_getD, List.getElem?_eq_getElem hlt]
          exact List.getElem_mem _)
        by_cases e : n + rkJ J q = x
        · subst e
          rw [gi_set_self hx]
          exact hj
        · rw [gi_set_ne e]
          exact ih x hx
      · cases h
theorem ps_h64 : ∀ (b : BT) (base : Nat), b.Fit → ∀ q ∈ b.ps base, In64 q.h
  | .leaf x, base, h, q, hq => by
    rw [BT.ps] at hq
    rw [List.mem_singleton.1 hq]
    unfold In64; simp
  | .node l r h0, base, h, q, hq => by
    rw [BT.ps] at hq
    rcases List.mem_append.1 hq with hq | hq
    · rcases List.mem_append.1 hq with hq | hq
      · exact ps_h64 l _ h.1 q hq
      · exact ps_h64 r _ h.2.1 q hq
    · rw [List.mem_singleton.1 hq]
      exact h.2.2
theorem fps_h64 : ∀ (F : List BT) (base : Nat), (∀ b ∈ F, b.Fit) → ∀ q ∈ fPs F base, In64 q.h
  | [], base, h, q, hq => absurd hq List.not_mem_nil
  | b :: F, base, h, q, hq => by
    rw [fPs] at hq
    rcases List.mem_append.1 hq with hq | hq
    · exact ps_h64 b _ (h b (.head _)) q hq
    · exact fps_h64 F _ (fun c hc => h c (.tail _ hc)) q hq
theorem refT_h64 {s : List UInt8} {t : Tr} (h : refT s = some t) : Hgt64 t := by
  unfold refT at h
  cases hr : refO s s.length 0 [] with
  | none => rw [hr] at h; cases h
  | some L =>
    rw [hr] at h
    obtain ⟨F, hF, e⟩ := refO_ps s _ _ _ _ hr
    have e' : L = fPs F 0 := by rw [e]; rfl
    simp only at h
    unfold madeO at h
    split at h
    · refine madeTo_h64 ?_ (Nat.le_refl _) h
      intro j hj
      unfold jsOf at hj
      obtain ⟨q, hq, rfl⟩ := List.mem_map.1 hj
      exact fps_h64 F 0 hF q (by rw [← e']; exact (List.mem_filter.1 hq).1)
    · cases h
theorem made_lens {L : List Pt} {t : Tr} (h : madeO L = some t) : t.left.length ≤ L.length := by
  unfold madeO at h
  split at h
  · have := madeTo_len _ t h
    have := cnt_all L
    omega
  · cases h
theorem refO_end {s : List UInt8} {f p : Nat} {L : List Pt} (h : ¬ p < s.length) : refO s f p L = some L := by
  cases f with
  | zero => rw [refO, if_neg h]
  | succ f => rw [refO, if_neg h]
theorem refO_n1 {s : List UInt8} {f p : Nat} {L : List Pt} (h : p < s.length) (h1 : partO s (s.length + 1) p L = none) : refO s (f + 1) p L = none := by rw [refO, if_pos h, h1]
theorem refO_n2 {s : List UInt8} {f p p1 : Nat} {L L1 : List Pt} (h : p < s.length) (h1 : partO s (s.length + 1) p L = some (p1, L1)) (h2 : at8 s p1 59 = false) : refO s (f + 1) p L = none := by
  rw [refO, if_pos h, h1]; simp only; rw [h2]; rfl
theorem refO_s {s : List UInt8} {f p p1 : Nat} {L L1 : List Pt} (h : p < s.length) (h1 : partO s (s.length + 1) p L = some (p1, L1)) (h2 : at8 s p1 59 = true) : refO s (f + 1) p L = refO s f (p1 + 1) L1 := by
  rw [refO, if_pos h, h1]; simp only; rw [h2]; rfl

/-- What the reference's Parse returns. -/
structure RpPost (w : World) (o : Option Tr) (e : Ending) (w' : World) : Prop where
  bad : o = none → e = .returned (.tuple #[.agg #[.int .i64 0, .slice none 0 0, .slice none 0 0, .slice none 0 0, .slice none 0 0, .slice none 0 0], .int .i64 15])
  ok : ∀ t, o = some t → ∃ A : TA, e = .returned (.tuple #[A.agg t, .int .i64 0]) ∧ TreeAt w' A t ∧ Hgt64 t
  bel : Below w.heap.size w w'

/-- Where the reading is. -/
def RpI (s : ByteArray) (p : Nat) (L : List Pt) (fl : Bool) : Prop :=
  (fl = true ∧ refO s.data.toList s.data.toList.length 0 [] = none) ∨ (fl = false ∧ p ≤ s.size ∧ L.length ≤ p ∧ PsWf L ∧ ∃ f, s.size ≤ f + p ∧ refO s.data.toList s.data.toList.length 0 [] = refO s.data.toList f p L)
theorem ba_len (s : ByteArray) : s.data.toList.length = s.size := by rfl
/-- How far the reading still has to go. -/
def rpM (s : ByteArray) (rp : Nat) (w : World) : Nat := match w.cell? ⟨rp, 3, none⟩ with | some (.bool true) => 0 | _ => s.size + 1 - (match w.cell? ⟨rp, 1, none⟩ with | some v => (intOf v).toNat | none => 0)
theorem rpM_no {s : ByteArray} {rp p : Nat} {w : World} (h1 : w.cell? ⟨rp, 1, none⟩ = some (.int .i64 (p : Int))) (h3 : w.cell? ⟨rp, 3, none⟩ = some (.bool false)) : rpM s rp w = s.size + 1 - p := by
  unfold rpM
  rw [h3, h1]
  simp [intOf]
theorem rpM_yes {s : ByteArray} {rp : Nat} {w : World} (h3 : w.cell? ⟨rp, 3, none⟩ = some (.bool true)) : rpM s rp w = 0 := by
  unfold rpM
  rw [h3]

set_option maxHeartbeats 16000000 in
set_option maxRecDepth 100000 in
theorem r22parse_ok (w : World) (s : ByteArray) (hs : s.size ≤ 50000) : Calls Tryz.prog 17 #[.string s] w (RpPost w (keepT s.data.toList (refT s.data.toList))) := by
  have HW := Lib.hid (bel_alloc w (.cells #[.int .i64 0, .slice none 0 0, .slice none 0 0, .slice none 0 0, .slice none 0 0, .slice none 0 0] 27))
  have HR0 := Lib.hid (Blk.new w 27 [.int .i64 0, .slice none 0 0, .slice none 0 0, .slice none 0 0, .slice none 0 0, .slice none 0 0])
  go_enter Tryz.func17, Tryz.ntmps17
  go_upto_region 1 with fail
  obtain ⟨rb, HRB⟩ : ∃ x, Hid (w.heap.size = x) := ⟨_, rfl⟩
  have HR1 : Hid (Blk (w.alloc (.cells #[.int .i64 0, .slice none 0 0, .slice none 0 0, .slice none 0 0, .slice none 0 0, .slice none 0 0] 27)) rb 27 [.int .i64 0, .slice none 0 0, .slice none 0 0, .slice none 0 0, .slice none 0 0, .slice none 0 0]) := by rw [← HRB.out]; exact HR0.out
  simp only [HRB.out]
  clear HR0
  generalize (w.alloc (.cells #[.int .i64 0, .slice none 0 0, .slice none 0 0, .slice none 0 0, .slice none 0 0, .slice none 0 0] 27)) = w1 at *
  have HRD : Hid (RRd w1 s w1.heap.size 0 [] false (.slice none 0 0) (w1.alloc (.cells #[.string s, .int .i64 0, .slice none 0 0, .bool false] 92))) := ⟨Blk.new w1 _ _, World.ownsRow_nil _ _ _ _, bel_alloc w1 _, Nat.le_refl _⟩
  have HR2 := Lib.hid (HR1.out.below HRD.out.bel HR1.out.lt)
  have HR1' := HR1
  have HBW := HW
  have HRBW : Hid (w1.heap.size = w1.heap.size) := rfl
  go_wp2_with fail
  obtain ⟨rp, HRP⟩ : ∃ x, Hid (w1.heap.size = x) := ⟨_, rfl⟩
  rw [HRP.out] at HRD
  simp only [HRP.out]
  generalize (w1.alloc (.cells #[.string s, .int .i64 0, .slice none 0 0, .bool false] 92)) = w2 at *
  -- WALK
  have HB2 := Lib.hid (bel_then HW.out HRD.out.bel)
  have HRM : Hid (rb < rp) := by show _ < _; rw [← HRP.out]; exact HR1.out.lt
  clear HW HR1
  go_loopw [] (fun wr => ∃ p L fl lv, RRd w1 s rp p L fl lv wr ∧ RpI s p L fl) (fun wr => rpM s rp wr)
  case atStart => exact ⟨0, [], false, _, HRD.out, .inr ⟨rfl, Nat.zero_le _, Nat.le_refl _, PsWf.nil, s.data.toList.length, by rw [ba_len]; omega, rfl⟩⟩
  case round =>
    obtain ⟨p, L, fl, lv, hr, hi⟩ := hrel
    have HRR := Lib.hid hr
    have HB3 := Lib.hid (bel_then HBW.out hr.bel)
    have HRB3 := Lib.hid (HR1'.out.below hr.bel HR1'.out.lt)
    have c0 := hr.box.cell (i := 0) rfl
    have c1 := hr.box.cell (i := 1) rfl
    have c2 := hr.box.cell (i := 2) rfl
    have c3 := hr.box.cell (i := 3) rfl
    clear hr HRD HR2
    rcases hi with ⟨rfl, hno⟩ | ⟨rfl, hps, hLp, hwf, f, hf, hro⟩
    · have HNO := Lib.hid hno
      clear hno
      by_cases hp : p < s.size
      · have t1 : decide (p < s.size) = true := decide_eq_true hp
        have t2 : decide ((p : Int) < (s.size : Int)) = true := decide_eq_true (by omega)
        clear hp
        go_upto_region 7 with fail
        have HN : Hid (keepT s.data.toList (refT s.data.toList) = none) := by show _ = _; unfold refT; rw [HNO.out]; rfl
        have HRX := HRB3
        have HBX := HB3
        clear HRR
        go_wp2_with (with_reducible refine wpList_storeBlk rb 27 [.int .i64 0, .slice none 0 0, .slice none 0 0, .slice none 0 0, .slice none 0 0, .slice none 0 0] [.int .i64 0, .slice none 0 0, .slice none 0 0, .slice none 0 0, .slice none 0 0, .slice none 0 0] rfl rfl HRX.out rfl (by kernel_rfl) (by decide) ?_)
        intro wz hbz hmz
        have HF : Hid (Below w.heap.size w wz) := bel_mod HBX.out hmz (fun x e => by rw [e]; exact Nat.le_of_eq HRB.out)
        have d0 := hbz.cell (i := 0) rfl
        have d1 := hbz.cell (i := 1) rfl
        have d2 := hbz.cell (i := 2) rfl
        have d3 := hbz.cell (i := 3) rfl
        have d4 := hbz.cell (i := 4) rfl
        have d5 := hbz.cell (i := 5) rfl
        clear hbz hmz
        go_wp2_with fail
        refine bodyPost_ret (v := .tuple #[.agg #[.int .i64 0, .slice none 0 0, .slice none 0 0, .slice none 0 0, .slice none 0 0, .slice none 0 0], .int .i64 15]) (by simp [results, Tryz.results17, go_sem, d0, d1, d2, d3, d4, d5]) rfl ?_
        exact ⟨fun _ => rfl, fun t ht => (by rw [HN.out] at ht; cases ht), HF.out⟩
      · have t1 : decide (p < s.size) = false := decide_eq_false hp
        have t2 : decide ((p : Int) < (s.size : Int)) = false := decide_eq_false (by omega)
        clear hp
        go_upto_region 7 with fail
        have HN : Hid (keepT s.data.toList (refT s.data.toList) = none) := by show _ = _; unfold refT; rw [HNO.out]; rfl
        have HRX := HRB3
        have HBX := HB3
        clear HRR
        go_wp2_with (with_reducible refine wpList_storeBlk rb 27 [.int .i64 0, .slice none 0 0, .slice none 0 0, .slice none 0 0, .slice none 0 0, .slice none 0 0] [.int .i64 0, .slice none 0 0, .slice none 0 0, .slice none 0 0, .slice none 0 0, .slice none 0 0] rfl rfl HRX.out rfl (by kernel_rfl) (by decide) ?_)
        intro wz hbz hmz
        have HF : Hid (Below w.heap.size w wz) := bel_mod HBX.out hmz (fun x e => by rw [e]; exact Nat.le_of_eq HRB.out)
        have d0 := hbz.cell (i := 0) rfl
        have d1 := hbz.cell (i := 1) rfl
        have d2 := hbz.cell (i := 2) rfl
        have d3 := hbz.cell (i := 3) rfl
        have d4 := hbz.cell (i := 4) rfl
        have d5 := hbz.cell (i := 5) rfl
        clear hbz hmz
        go_wp2_with fail
        refine bodyPost_ret (v := .tuple #[.agg #[.int .i64 0, .slice none 0 0, .slice none 0 0, .slice none 0 0, .slice none 0 0, .slice none 0 0], .int .i64 15]) (by simp [results, Tryz.results17, go_sem, d0, d1, d2, d3, d4, d5]) rfl ?_
        exact ⟨fun _ => rfl, fun t ht => (by rw [HN.out] at ht; cases ht), HF.out⟩
    · have HWF := Lib.hid hwf
      have HRO := Lib.hid hro
      by_cases hp : p < s.size
      · have t1 : decide (p < s.size) = true := decide_eq_true hp
        have t2 : decide ((p : Int) < (s.size : Int)) = true := decide_eq_true (by omega)
        obtain ⟨f', rfl⟩ : ∃ f', f = f' + 1 := ⟨f - 1, by omega⟩
        have HM0 : Hid (rpM s rp wr = s.size + 1 - p) := rpM_no c1 c3
        have HPP : Hid (p < s.data.toList.length) := by show _ < _; rw [ba_len]; exact hp
        clear hwf hro
        go_wp2_with fail
        with_reducible refine (r22part_ok w1 s (by omega) (s.size + 1) rp p L lv wr HRR.out hps (by omega) hLp).mono ?_
        rintro e w4 ⟨v, q, L', fl', lv', rfl, hrd, hcase⟩
        have HR4 := Lib.hid hrd
        clear c0 c1 c2 c3 HRR hrd HRB3 HB3
        rcases hcase with ⟨hpo, rfl, hv, hLq, hpq, hqs⟩ | ⟨hpo, rfl⟩
        · have HPO := Lib.hid hpo
          clear hpo
          have c0 := HR4.out.box.cell (i := 0) rfl
          have c1 := HR4.out.box.cell (i := 1) rfl
          have c2 := HR4.out.box.cell (i := 2) rfl
          have c3 := HR4.out.box.cell (i := 3) rfl
          go_wp2_with fail
          with_reducible refine (r22must_ok w1 s rp q L' false lv' w4 HR4.out (by omega) (by omega) 59 59 rfl).mono ?_
          rintro e w5 ⟨rfl, hro5, _⟩
          have HWF5 := Lib.hid (HWF.out.part HPO.out)
          clear c0 c1 c2 c3 HR4
          by_cases h8 : at8 s.data.toList q 59 = true
          · rw [if_pos h8, h8] at hro5
            have HR5 := Lib.hid hro5
            have hq1 : q < s.size := at8_size h8
            have HM1 : Hid (rpM s rp w5 = s.size + 1 - (q + 1)) := rpM_no (hro5.box.cell (i := 1) rfl) (hro5.box.cell (i := 3) rfl)
            have HRO5 : Hid (refO s.data.toList s.data.toList.length 0 [] = refO s.data.toList f' (q + 1) L') := by show _ = _; rw [HRO.out, refO_s HPP.out HPO.out h8]
            clear hro5 h8
            go_wp2_with fail
            go_roundw
            case rel => exact ⟨q + 1, L', false, lv', HR5.out, .inr ⟨rfl, by omega, by omega, HWF5.out, f', by omega, HRO5.out⟩⟩
            case measure =>
              show rpM s rp w5 < rpM s rp wr
              rw [HM0.out, HM1.out]; omega
          · rw [if_neg h8, Bool.eq_false_iff.2 h8] at hro5
            have HR5 := Lib.hid hro5
            have HM1 : Hid (rpM s rp w5 = 0) := rpM_yes (hro5.box.cell (i := 3) rfl)
            have HRO5 : Hid (refO s.data.toList s.data.toList.length 0 [] = none) := by show _ = _; rw [HRO.out, refO_n2 HPP.out HPO.out (Bool.eq_false_iff.2 h8)]
            clear hro5 h8
            go_wp2_with fail
            go_roundw
            case rel => exact ⟨q, L', true, lv', HR5.out, .inl ⟨rfl, HRO5.out⟩⟩
            case measure =>
              show rpM s rp w5 < rpM s rp wr
              rw [HM0.out, HM1.out]; omega
        · have HRO5 : Hid (refO s.data.toList s.data.toList.length 0 [] = none) := by show _ = _; rw [HRO.out, refO_n1 HPP.out hpo]
          have c0 := HR4.out.box.cell (i := 0) rfl
          have c1 := HR4.out.box.cell (i := 1) rfl
          have c2 := HR4.out.box.cell (i := 2) rfl
          have c3 := HR4.out.box.cell (i := 3) rfl
          have HM1 : Hid (rpM s rp w4 = 0) := rpM_yes c3
          clear hpo
          go_wp2_with fail
          clear c0 c1 c2 c3
          go_roundw
          case rel => exact ⟨q, L', true, lv', HR4.out, .inl ⟨rfl, HRO5.out⟩⟩
          case measure =>
            show rpM s rp w4 < rpM s rp wr
            rw [HM0.out, HM1.out]; omega
      · have t1 : decide (p < s.size) = false := decide_eq_false hp
        have t2 : decide ((p : Int) < (s.size : Int)) = false := decide_eq_false (by omega)
        have HRF : Hid (refT s.data.toList = madeO L) := by
          show _ = _
          unfold refT
          rw [HRO.out, refO_end (by rw [ba_len]; exact hp)]
        have hL5 : L.length ≤ 50000 := by omega
        obtain ⟨ao, cap, g, hlv, hpr, hao⟩ := PRow.of_owns HRR.out.row
        subst hlv
        have HPR := Lib.hid hpr
        have HAO := Lib.hid hao
        clear hwf hro hp hps hLp hf HRO hpr hao
        go_wp2_with fail
        with_reducible refine (r22made_ok wr ao cap g L HPR.out HAO.out HWF.out (by omega)).mono ?_
        rintro e w4 ⟨hbad, hok, hb⟩
        have HB4 := Lib.hid (bel_then HB3.out hb)
        have HR4 := Lib.hid (HRB3.out.below hb HRB3.out.lt)
        have HRS3 : Hid (rb < wr.heap.size) := HRB3.out.lt
        clear hb HB3 HRB3 c0 c1 c2 c3 HPR HAO HRR
        cases hm : madeO L with
        | none =>
          obtain rfl := hbad hm
          have HN : Hid (keepT s.data.toList (refT s.data.toList) = none) := by show _ = _; rw [HRF.out, hm]; rfl
          clear hbad hok hm
          go_upto_region 9 with fail
          have HBX := Lib.hid (bel_then HB4.out (bel_alloc w4 (.cells #[.int .i64 0, .slice none 0 0, .slice none 0 0, .slice none 0 0, .slice none 0 0, .slice none 0 0] 27)))
          have HRX := Lib.hid (HR4.out.below (bel_alloc w4 (.cells #[.int .i64 0, .slice none 0 0, .slice none 0 0, .slice none 0 0, .slice none 0 0, .slice none 0 0] 27)) HR4.out.lt)
          go_wp2_with (with_reducible refine wpList_storeBlk rb 27 [.int .i64 0, .slice none 0 0, .slice none 0 0, .slice none 0 0, .slice none 0 0, .slice none 0 0] [.int .i64 0, .slice none 0 0, .slice none 0 0, .slice none 0 0, .slice none 0 0, .slice none 0 0] rfl rfl HRX.out rfl (by kernel_rfl) (by decide) ?_)
          intro wz hbz hmz
          have HF : Hid (Below w.heap.size w wz) := bel_mod HBX.out hmz (fun x e => by rw [e]; exact Nat.le_of_eq HRB.out)
          have d0 := hbz.cell (i := 0) rfl
          have d1 := hbz.cell (i := 1) rfl
          have d2 := hbz.cell (i := 2) rfl
          have d3 := hbz.cell (i := 3) rfl
          have d4 := hbz.cell (i := 4) rfl
          have d5 := hbz.cell (i := 5) rfl
          clear hbz hmz
          go_wp2_with fail
          refine bodyPost_ret (v := .tuple #[.agg #[.int .i64 0, .slice none 0 0, .slice none 0 0, .slice none 0 0, .slice none 0 0, .slice none 0 0], .int .i64 15]) (by simp [results, Tryz.results17, go_sem, d0, d1, d2, d3, d4, d5]) rfl ?_
          exact ⟨fun _ => rfl, fun t ht => (by rw [HN.out] at ht; cases ht), HF.out⟩
        | some t =>
          obtain ⟨A, rfl, hta, hnew⟩ := hok t hm
          have HNW : Hid (∀ x, A.has t x → rb < x) := fun x hx => by have h1 := hnew x hx; have h2 := HRS3.out; omega
          have HRS : Hid (refT s.data.toList = some t) := by show _ = _; rw [HRF.out, hm]
          have H64 := Lib.hid (refT_h64 HRS.out)
          have HLEN := Lib.hid (made_lens hm)
          have HTA := Lib.hid hta
          clear hbad hok hta hm hnew
          have HAG : Hid (A.agg t = .agg #[.int .i64 t.lv, .slice A.l.o t.left.length A.l.c, .slice A.r.o t.right.length A.r.c, .slice A.p.o t.par.length A.p.c, .slice A.h.o t.hgt.length A.h.c, .slice A.s.o t.siz.length A.s.c]) := rfl
          rw [HAG.out]
          have HBL := Lib.hid (bel_alloc w4 (.cells #[.int .i64 t.lv, .slice A.l.o t.left.length A.l.c, .slice A.r.o t.right.length A.r.c, .slice A.p.o t.par.length A.p.c, .slice A.h.o t.hgt.length A.h.c, .slice A.s.o t.siz.length A.s.c] 27))
          have HX := Lib.hid (TBox.new w4 A t)
          have HB5 := Lib.hid (bel_then HB4.out HBL.out)
          have HR5 := Lib.hid (HR4.out.below HBL.out HR4.out.lt)
          have HTA5 := Lib.hid (HTA.out.below HBL.out)
          have HXS : Hid (rb < w4.heap.size) := HR4.out.lt
          go_upto_region 9 with fail
          clear HBL HR4 HB4 HTA
          generalize (w4.alloc (.cells #[.int .i64 t.lv, .slice A.l.o t.left.length A.l.c, .slice A.r.o t.right.length A.r.c, .slice A.p.o t.par.length A.p.c, .slice A.h.o t.hgt.length A.h.c, .slice A.s.o t.siz.length A.s.c] 27)) = w5 at *
          generalize w4.heap.size = xb at *
          have c0 := TBox.c0 HX.out
          have c1 := TBox.c1 HX.out
          have c2 := TBox.c2 HX.out
          have c3 := TBox.c3 HX.out
          have c4 := TBox.c4 HX.out
          have c5 := TBox.c5 HX.out
          have hT := r22rtext_ok w5 A t HTA5.out (by have := HLEN.out; omega) H64.out
          rw [show A.agg t = .agg #[.int .i64 t.lv, .slice A.l.o t.left.length A.l.c, .slice A.r.o t.right.length A.r.c, .slice A.p.o t.par.length A.p.c, .slice A.h.o t.hgt.length A.h.c, .slice A.s.o t.siz.length A.s.c] from rfl] at hT
          go_wp2_with fail
          with_reducible refine hT.mono ?_
          rintro e w6 ⟨rfl, hb⟩
          have HB6 := Lib.hid (bel_then HB5.out hb)
          have HR6 := Lib.hid (HR5.out.below hb HR5.out.lt)
          have HX6 := Lib.hid (Blk.below HX.out hb (Blk.lt HX.out))
          have HTA6 := Lib.hid (HTA5.out.below hb)
          clear hb hT c0 c1 c2 c3 c4 c5 HB5 HR5 HX HTA5
          have HRX := HR6
          have HBX := HB6
          cases hx : txtO t with
          | none =>
            have HXO := Lib.hid hx
            clear hx
            rw [txR]
            have HN : Hid (keepT s.data.toList (refT s.data.toList) = none) := by show _ = _; rw [HRS.out]; exact keep_no (by rw [HXO.out]; simp)
            go_wp2_with (with_reducible refine wpList_storeBlk rb 27 [.int .i64 0, .slice none 0 0, .slice none 0 0, .slice none 0 0, .slice none 0 0, .slice none 0 0] [.int .i64 0, .slice none 0 0, .slice none 0 0, .slice none 0 0, .slice none 0 0, .slice none 0 0] rfl rfl HRX.out rfl (by kernel_rfl) (by decide) ?_)
            intro wz hbz hmz
            have HF : Hid (Below w.heap.size w wz) := bel_mod HBX.out hmz (fun x e => by rw [e]; exact Nat.le_of_eq HRB.out)
            have d0 := hbz.cell (i := 0) rfl
            have d1 := hbz.cell (i := 1) rfl
            have d2 := hbz.cell (i := 2) rfl
            have d3 := hbz.cell (i := 3) rfl
            have d4 := hbz.cell (i := 4) rfl
            have d5 := hbz.cell (i := 5) rfl
            clear hbz hmz
            go_wp2_with fail
            refine bodyPost_ret (v := .tuple #[.agg #[.int .i64 0, .slice none 0 0, .slice none 0 0, .slice none 0 0, .slice none 0 0, .slice none 0 0], .int .i64 15]) (by simp [results, Tryz.results17, go_sem, d0, d1, d2, d3, d4, d5]) rfl ?_
            exact ⟨fun _ => rfl, fun t ht => (by rw [HN.out] at ht; cases ht), HF.out⟩
          | some x =>
            have HXO := Lib.hid hx
            clear hx
            by_cases hxl : x = s.data.toList
            · subst hxl
              have hsl : (⟨s.data.toList.toArray⟩ : ByteArray) = s := rfl
              rw [txR, hsl]
              have HN : Hid (keepT s.data.toList (refT s.data.toList) = some t) := by show _ = _; rw [HRS.out]; exact keep_yes HXO.out
              have c0 := TBox.c0 HX6.out
              have c1 := TBox.c1 HX6.out
              have c2 := TBox.c2 HX6.out
              have c3 := TBox.c3 HX6.out
              have c4 := TBox.c4 HX6.out
              have c5 := TBox.c5 HX6.out
              clear hsl
              go_wp2_with (with_reducible refine wpList_storeBlk rb 27 [.int .i64 0, .slice none 0 0, .slice none 0 0, .slice none 0 0, .slice none 0 0, .slice none 0 0] [.int .i64 t.lv, .slice A.l.o t.left.length A.l.c, .slice A.r.o t.right.length A.r.c, .slice A.p.o t.par.length A.p.c, .slice A.h.o t.hgt.length A.h.c, .slice A.s.o t.siz.length A.s.c] rfl rfl HRX.out rfl (by kernel_rfl) (by simp [Value.oneCell']) ?_)
              intro wz hbz hmz
              have HF : Hid (Below w.heap.size w wz) := bel_mod HBX.out hmz (fun x e => by rw [e]; exact Nat.le_of_eq HRB.out)
              have HTZ := Lib.hid (HTA6.out.mod hmz (fun k hk e => by have := HNW.out k hk; have h2 : k = rb := e; omega))
              clear c0 c1 c2 c3 c4 c5
              have d0 := hbz.cell (i := 0) rfl
              have d1 := hbz.cell (i := 1) rfl
              have d2 := hbz.cell (i := 2) rfl
              have d3 := hbz.cell (i := 3) rfl
              have d4 := hbz.cell (i := 4) rfl
              have d5 := hbz.cell (i := 5) rfl
              clear hbz hmz
              go_wp2_with fail
              refine bodyPost_ret (v := .tuple #[.agg #[.int .i64 t.lv, .slice A.l.o t.left.length A.l.c, .slice A.r.o t.right.length A.r.c, .slice A.p.o t.par.length A.p.c, .slice A.h.o t.hgt.length A.h.c, .slice A.s.o t.siz.length A.s.c], .int .i64 0]) (by simp [results, Tryz.results17, go_sem, d0, d1, d2, d3, d4, d5]) rfl ?_
              exact ⟨fun h => (by rw [HN.out] at h; cases h), fun t' ht => (by rw [HN.out] at ht; injection ht with ht; subst ht; exact ⟨A, rfl, HTZ.out, H64.out⟩), HF.out⟩
            · have HN : Hid (keepT s.data.toList (refT s.data.toList) = none) := by show _ = _; rw [HRS.out]; exact keep_no (by rw [HXO.out]; simpa using hxl)
              have hsl : (x == s.toList) = false := by
                rw [beq_eq_false_iff_ne, Lib.toList_data]
                exact hxl
              rw [txR]
              go_wp2_with (with_reducible refine wpList_storeBlk rb 27 [.int .i64 0, .slice none 0 0, .slice none 0 0, .slice none 0 0, .slice none 0 0, .slice none 0 0] [.int .i64 0, .slice none 0 0, .slice none 0 0, .slice none 0 0, .slice none 0 0, .slice none 0 0] rfl rfl HRX.out rfl (by kernel_rfl) (by decide) ?_)
              intro wz hbz hmz
              have HF : Hid (Below w.heap.size w wz) := bel_mod HBX.out hmz (fun x e => by rw [e]; exact Nat.le_of_eq HRB.out)
              have d0 := hbz.cell (i := 0) rfl
              have d1 := hbz.cell (i := 1) rfl
              have d2 := hbz.cell (i := 2) rfl
              have d3 := hbz.cell (i := 3) rfl
              have d4 := hbz.cell (i := 4) rfl
              have d5 := hbz.cell (i := 5) rfl
              clear hbz hmz
              go_wp2_with fail
              refine bodyPost_ret (v := .tuple #[.agg #[.int .i64 0, .slice none 0 0, .slice none 0 0, .slice none 0 0, .slice none 0 0, .slice none 0 0], .int .i64 15]) (by simp [results, Tryz.results17, go_sem, d0, d1, d2, d3, d4, d5]) rfl ?_
              exact ⟨fun _ => rfl, fun t ht => (by rw [HN.out] at ht; cases ht), HF.out⟩
end Go.Proofs.YthacjealoomioaaGreatDoor
