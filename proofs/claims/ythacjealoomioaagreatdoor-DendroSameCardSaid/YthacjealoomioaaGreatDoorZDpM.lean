/- DpM. -/
import Derived.Test.YthacjealoomioaaGreatDoorZDpE
import Derived.Test.YthacjealoomioaaGreatDoorZGa
import Derived.Test.YthacjealoomioaaGreatDoorZGj
import Derived.Deep.CutBlock
/- The reference's reader of texts: made. (printed by dpm.py) -/
namespace Go.Proofs.YthacjealoomioaaGreatDoor
set_option linter.unusedVariables false
set_option linter.unusedSimpArgs false
open Go.RowKit

structure MdPost (w : World) (L : List Pt) (e : Ending) (w' : World) : Prop where
  bad : madeO L = none → e = .returned (.tuple #[.agg #[.int .i64 0, .slice none 0 0, .slice none 0 0, .slice none 0 0, .slice none 0 0, .slice none 0 0], .bool false])
  ok : ∀ t, madeO L = some t → ∃ A : TA, e = .returned (.tuple #[A.agg t, .bool true]) ∧ TreeAt w' A t ∧ ∀ x, A.has t x → w.heap.size ≤ x
  bel : Below w.heap.size w w'

theorem unp_iff {L : List Pt} (hw : PsWf L) {k p : Nat} (hp : p < L.length) : unp L k p ↔ (PA L p).leaf < 0 ∧ nodeF L k p = 0 := by
  have hn := leaf_pos hw (by omega)
  unfold unp nodeF
  constructor
  · rintro ⟨h1, h2⟩
    rw [if_pos h1, if_neg (by omega)]
    exact ⟨h1, rfl⟩
  · rintro ⟨h1, h2⟩
    rw [if_pos h1] at h2
    refine ⟨h1, ?_⟩
    by_cases c : rkJ (jsOf L) (jcnt L p) < k
    · rw [if_pos c] at h2; omega
    · omega
theorem nodeF_lt {L : List Pt} (h : LvOk L) {k p : Nat} (hp : p < L.length) : nodeF L k p < L.length := by
  have hc := cnt_all L
  unfold nodeF
  by_cases c : (PA L p).leaf < 0
  · rw [if_pos c]
    have := rk_lt (jcnt_lt hp c)
    split <;> omega
  · rw [if_neg c]
    have := lv_bd h hp c
    omega
theorem RTr.cellAt {B : Nat} {W : World} {tb : Nat} {V : RV} {t : Tr} (h : RTr B W tb V t) {i : Nat} (hi : i < 5) {g n cap : Nat} (hv : V.at i = .slice (some ⟨g, 0, none⟩) n cap) {j : Nat} (hj : j < (t.at i).length) : W.cell? ⟨g, j, none⟩ = some (.int .i64 (gi (t.at i) j)) ∧ W.frozen? ⟨g, j, none⟩ = false := by
  obtain ⟨g', cap', e, hc⟩ := h.form hi (by omega)
  rw [hv] at e
  injection e with e1 e2 e3
  injection e1 with e1
  injection e1 with e1
  subst e1
  exact hc j hj
theorem nodeF_ltk {L : List Pt} (h : LvOk L) {k p : Nat} (hn : 0 < lcnt L) (hp : p < L.length) : nodeF L k p < lcnt L + k := by
  unfold nodeF
  by_cases c : (PA L p).leaf < 0
  · rw [if_pos c]
    split <;> omega
  · rw [if_neg c]
    have := lv_bd h hp c
    omega
/-- The cells that a place of the tree is read and written by. -/
theorem RTr.facts {B : Nat} {W : World} {V : RV} {t : Tr} (h : RTr B W B V t) {b1 b2 b4 b5 k1 k2 k4 k5 M X A C : Nat} (e1 : V.at 0 = .slice (some ⟨b1, 0, none⟩) M k1) (e2 : V.at 1 = .slice (some ⟨b2, 0, none⟩) M k2) (e4 : V.at 3 = .slice (some ⟨b4, 0, none⟩) M k4) (e5 : V.at 4 = .slice (some ⟨b5, 0, none⟩) M k5)
    (hl : t.left.length = M ∧ t.right.length = M ∧ t.hgt.length = M ∧ t.siz.length = M) (hX : X < M) (hA : A < M) (hC : C < M) :
    W.cell? ⟨B, 1, none⟩ = some (.slice (some ⟨b1, 0, none⟩) M k1) ∧ W.cell? ⟨B, 2, none⟩ = some (.slice (some ⟨b2, 0, none⟩) M k2) ∧ W.cell? ⟨B, 4, none⟩ = some (.slice (some ⟨b4, 0, none⟩) M k4) ∧ W.cell? ⟨B, 5, none⟩ = some (.slice (some ⟨b5, 0, none⟩) M k5) ∧
    (∃ u, W.cell? ⟨b1, X, none⟩ = some (.int .i64 u)) ∧ (∃ u, W.cell? ⟨b2, X, none⟩ = some (.int .i64 u)) ∧ (∃ u, W.cell? ⟨b4, X, none⟩ = some (.int .i64 u)) ∧ (∃ u, W.cell? ⟨b5, X, none⟩ = some (.int .i64 u)) ∧
    W.frozen? ⟨b1, X, none⟩ = false ∧ W.frozen? ⟨b2, X, none⟩ = false ∧ W.frozen? ⟨b4, X, none⟩ = false ∧ W.frozen? ⟨b5, X, none⟩ = false ∧
    W.cell? ⟨b5, A, none⟩ = some (.int .i64 (gi t.siz A)) ∧ W.cell? ⟨b5, C, none⟩ = some (.int .i64 (gi t.siz C)) := by
  obtain ⟨l1, l2, l4, l5⟩ := hl
  obtain ⟨a1, f1⟩ := h.cellAt (i := 0) (by omega) e1 (j := X) (by show X < t.left.length; omega)
  obtain ⟨a2, f2⟩ := h.cellAt (i := 1) (by omega) e2 (j := X) (by show X < t.right.length; omega)
  obtain ⟨a4, f4⟩ := h.cellAt (i := 3) (by omega) e4 (j := X) (by show X < t.hgt.length; omega)
  obtain ⟨a5, f5⟩ := h.cellAt (i := 4) (by omega) e5 (j := X) (by show X < t.siz.length; omega)
  obtain ⟨s1, _⟩ := h.cellAt (i := 4) (by omega) e5 (j := A) (by show A < t.siz.length; omega)
  obtain ⟨s2, _⟩ := h.cellAt (i := 4) (by omega) e5 (j := C) (by show C < t.siz.length; omega)
  have c1 := h.box.cell (i := 1) rfl
  have c2 := h.box.cell (i := 2) rfl
  have c4 := h.box.cell (i := 4) rfl
  have c5 := h.box.cell (i := 5) rfl
  rw [show V.l = _ from e1] at c1
  rw [show V.r = _ from e2] at c2
  rw [show V.h = _ from e4] at c4
  rw [show V.s = _ from e5] at c5
  exact ⟨c1, c2, c4, c5, ⟨_, a1⟩, ⟨_, a2⟩, ⟨_, a4⟩, ⟨_, a5⟩, f1, f2, f4, f5, s1, s2⟩
/-- What the last statement of a round reads and writes. -/
def F40 (W : World) (B g q b1 b2 b4 b5 k1 k2 k4 k5 M X A C : Nat) (hh z1 z2 : Int) : Prop :=
  W.cell? ⟨B, 1, none⟩ = some (.slice (some ⟨b1, 0, none⟩) M k1) ∧ W.cell? ⟨B, 2, none⟩ = some (.slice (some ⟨b2, 0, none⟩) M k2) ∧ W.cell? ⟨B, 4, none⟩ = some (.slice (some ⟨b4, 0, none⟩) M k4) ∧ W.cell? ⟨B, 5, none⟩ = some (.slice (some ⟨b5, 0, none⟩) M k5) ∧ W.cell? ⟨g, q, none⟩ = some (.int .i64 hh) ∧
  (∃ u, W.cell? ⟨b1, X, none⟩ = some (.int .i64 u)) ∧ (∃ u, W.cell? ⟨b2, X, none⟩ = some (.int .i64 u)) ∧ (∃ u, W.cell? ⟨b4, X, none⟩ = some (.int .i64 u)) ∧ (∃ u, W.cell? ⟨b5, X, none⟩ = some (.int .i64 u)) ∧
  W.frozen? ⟨b1, X, none⟩ = false ∧ W.frozen? ⟨b2, X, none⟩ = false ∧ W.frozen? ⟨b4, X, none⟩ = false ∧ W.frozen? ⟨b5, X, none⟩ = false ∧
  W.cell? ⟨b5, A, none⟩ = some (.int .i64 z1) ∧ W.cell? ⟨b5, C, none⟩ = some (.int .i64 z2)
theorem RTr.f40 {B : Nat} {W : World} {V : RV} {t : Tr} (h : RTr B W B V t) {g q b1 b2 b4 b5 k1 k2 k4 k5 M X A C : Nat} {hh z1 z2 : Int} (e1 : V.at 0 = .slice (some ⟨b1, 0, none⟩) M k1) (e2 : V.at 1 = .slice (some ⟨b2, 0, none⟩) M k2) (e4 : V.at 3 = .slice (some ⟨b4, 0, none⟩) M k4) (e5 : V.at 4 = .slice (some ⟨b5, 0, none⟩) M k5)
    (hl : t.left.length = M ∧ t.right.length = M ∧ t.hgt.length = M ∧ t.siz.length = M) (hX : X < M) (hA : A < M) (hC : C < M) (hq : W.cell? ⟨g, q, none⟩ = some (.int .i64 hh)) (h1 : gi t.siz A = z1) (h2 : gi t.siz C = z2) : F40 W B g q b1 b2 b4 b5 k1 k2 k4 k5 M X A C hh z1 z2 := by
  obtain ⟨c1, c2, c4, c5, l1, l2, l4, l5, f1, f2, f4, f5, s1, s2⟩ := h.facts e1 e2 e4 e5 hl hX hA hC
  rw [h1] at s1
  rw [h2] at s2
  exact ⟨c1, c2, c4, c5, hq, l1, l2, l4, l5, f1, f2, f4, f5, s1, s2⟩
def S40 (W3 : World) (b1 b2 b4 b5 X A C : Nat) (hh sw : Int) : Nat → World
  | 0 => W3
  | 1 => W3.setCell ⟨b1, X, none⟩ (.int .i64 (A : Int))
  | 2 => (W3.setCell ⟨b1, X, none⟩ (.int .i64 (A : Int))).setCell ⟨b2, X, none⟩ (.int .i64 (C : Int))
  | 3 => ((W3.setCell ⟨b1, X, none⟩ (.int .i64 (A : Int))).setCell ⟨b2, X, none⟩ (.int .i64 (C : Int))).setCell ⟨b4, X, none⟩ (.int .i64 hh)
  | _ => (((W3.setCell ⟨b1, X, none⟩ (.int .i64 (A : Int))).setCell ⟨b2, X, none⟩ (.int .i64 (C : Int))).setCell ⟨b4, X, none⟩ (.int .i64 hh)).setCell ⟨b5, X, none⟩ (.int .i64 sw)
theorem madeTo_none {n : Nat} {J : List Jt} {i : Nat} (h : madeTo n J i = none) : ∀ k, i ≤ k → madeTo n J k = none
  | 0, hk => by rw [show i = 0 by omega] at h; exact h
  | k + 1, hk => by
    by_cases e : i = k + 1
    · rw [← e]; exact h
    · have := madeTo_none h k (by omega)
      rw [madeTo, this]

set_option maxHeartbeats 64000000 in
set_option maxRecDepth 100000 in
theorem r22made_ok (w : World) (ao : Option Addr) (cap g : Nat) (L : List Pt) (hp : PRow w g L) (hao : 0 < L.length → ao = some ⟨g, 0, none⟩) (hwf : PsWf L) (hm : L.length ≤ 100000) :
    Calls Tryz.prog 50 #[.slice ao L.length cap] w (MdPost w L) := by
  have HP := Lib.hid hp
  have HWF := Lib.hid hwf
  obtain ⟨M, HM⟩ : ∃ M, Hid (L.length = M) := ⟨_, rfl⟩
  have HAO : Hid (0 < M → ao = some ⟨g, 0, none⟩) := by rw [← HM.out]; exact hao
  have hM : M ≤ 100000 := by rw [← HM.out]; exact hm
  obtain ⟨n, HN⟩ : ∃ n, Hid (lcnt L = n) := ⟨_, rfl⟩
  have hnM : n ≤ M := by have := cnt_all L; rw [HN.out, HM.out] at this; omega
  rw [HM.out]
  clear hp hwf hao hm
  obtain ⟨rb, HRB⟩ : ∃ x, Hid (w.heap.size = x) := ⟨_, rfl⟩
  obtain ⟨wA, HWA⟩ : ∃ x, Hid (w.alloc (.cells #[.int .i64 0, .slice none 0 0, .slice none 0 0, .slice none 0 0, .slice none 0 0, .slice none 0 0] 27) = x) := ⟨_, rfl⟩
  have HBA : Hid (Below w.heap.size w wA) := by rw [← HWA.out]; exact bel_alloc w _
  have HPA := Lib.hid (HP.out.below HBA.out)
  have HRK : Hid (Blk wA rb 27 [.int .i64 0, .slice none 0 0, .slice none 0 0, .slice none 0 0, .slice none 0 0, .slice none 0 0]) := by rw [← HWA.out, ← HRB.out]; exact Blk.new w _ [.int .i64 0, .slice none 0 0, .slice none 0 0, .slice none 0 0, .slice none 0 0, .slice none 0 0]
  have HGL : Hid (0 < M → g < rb) := fun h => by rw [← HRB.out]; exact HP.out.lt (by rw [HM.out]; exact h)
  go_enter Tryz.func50, Tryz.ntmps50
  go_upto_region 1 with fail
  rw [HWA.out]
  simp only [HRB.out]
  go_wp2_with fail
  go_loop [4, 5] (fun s4 s5 => ∃ i : Nat, i ≤ M ∧ s4 = .int .i64 (lct L i : Int) ∧ s5 = .int .i64 (i : Int)) (fun _ s5 => M - (intOf s5).toNat)
  case atStart => exact ⟨0, Nat.zero_le _, rfl, rfl⟩
  case round =>
    obtain ⟨i, hi, rfl, rfl⟩ := hrel
    by_cases hiM : i < M
    · as_aux_lemma =>
        have hl1 := lct_jcnt (L := L) i (by rw [HM.out]; exact hi)
        have HLS := Lib.hid (lct_succ (L := L) (p := i) (by rw [HM.out]; exact hiM))
        have ha := HAO.out (by omega)
        subst ha
        obtain ⟨q0, _⟩ := HPA.out.c i (by rw [HM.out]; exact hiM)
        obtain ⟨x, HX⟩ : ∃ x, Hid ((PA L i).leaf = x) := ⟨_, rfl⟩
        obtain ⟨c, HC⟩ : ∃ c, Hid (lct L i = c) := ⟨_, rfl⟩
        rw [HX.out] at q0 HLS
        rw [HC.out] at HLS hl1 ⊢
        have g1 : (i : Int) < (M : Int) := by omega
        have g2 : (0 : Int) ≤ (i : Int) := by omega
        by_cases hx : x < 0
        · have t1 : decide (0 ≤ x) = false := decide_eq_false (by omega)
          have HL2 : Hid (lct L (i + 1) = c) := by have := HLS.out; rw [if_pos hx] at this; exact this
          clear hx HLS
          go_wp2_with fail
          go_round
          case rel => exact ⟨i + 1, by omega, by rw [HL2.out], by go_num⟩
          case measure => simp [intOf]; omega
        · have t1 : decide (0 ≤ x) = true := decide_eq_true (by omega)
          have HL2 : Hid (lct L (i + 1) = c + 1) := by have := HLS.out; rw [if_neg hx] at this; exact this
          clear hx HLS
          go_wp2_with fail
          go_round
          case rel => exact ⟨i + 1, by omega, by rw [HL2.out]; go_num, by go_num⟩
          case measure => simp [intOf]; omega
    · obtain rfl : i = M := by omega
      have hlc : lct L i = n := by have := lct_all L; rw [HM.out, HN.out] at this; exact this
      rw [hlc]
      clear hlc hiM hi
      go_upto_region 8 with (at_make; refine wpList_makeB 3 (.int .i64 0) 8 Tryz.underlying24 Tryz.infoInt rfl _ _ _ _ i rfl rfl rfl rfl (by omega) (by unfold maxLen; omega) ?_; intro w1 B1 hb1)
      obtain ⟨nb, HNB⟩ : ∃ x, Hid (wA.heap.size = x) := ⟨_, rfl⟩
      rw [HNB.out] at B1 hb1
      simp only [HNB.out]
      have HB1 := Lib.hid hb1
      have HK1 := Lib.hid B1
      clear hb1 B1
      go_wp2_with (at_make; refine wpList_makeB 4 (.bool false) 1 Tryz.underlying141 Tryz.infoBool rfl _ _ _ _ n rfl rfl rfl rfl (by omega) (by unfold maxLen; omega) ?_; intro w2 B2 hb2)
      obtain ⟨sb, HSB⟩ : ∃ x, Hid (w1.heap.size = x) := ⟨_, rfl⟩
      rw [HSB.out] at B2 hb2
      simp only [HSB.out]
      have hnl : nb < sb := by rw [← HSB.out]; exact HK1.out.lt
      have hrn : rb < nb := by rw [← HNB.out]; exact HRK.out.lt
      have HB2 : Hid (Below nb wA w2) := HB1.out.trans (hb2.mono (by omega))
      have HN2 : Hid (Blk w2 nb 3 (natV (rowF i (nodeI L 0)))) := by
        have e : rowF i (nodeI L 0) = List.replicate i 0 := by
          unfold rowF
          apply List.ext_getElem (by simp)
          intro j h1 h2
          simp [nodeI]
        rw [e, natV_zero]
        exact HK1.out.below hb2 (by omega)
      have HS2 : Hid (Blk w2 sb 4 (boolV n (seenB L 0))) := by
        rw [boolV_false] at B2
        exact B2
      clear B2 hb2 HB1 HK1
      go_wp2_with fail
      go_loopw [8] (fun s wr => ∃ j : Nat, j ≤ i ∧ s = .int .i64 (j : Int) ∧ Blk wr nb 3 (natV (rowF i (nodeI L j))) ∧ Blk wr sb 4 (boolV n (seenB L j)) ∧ LvI L j ∧ Mod (fun x => x = nb ∨ x = sb) w2 wr) (fun s _ => i - (intOf s).toNat)
      case atStart => exact ⟨0, Nat.zero_le _, rfl, HN2.out, HS2.out, (fun p h => absurd h (Nat.not_lt_zero p)), Mod.refl _ _⟩
      case round =>
        obtain ⟨j, hj, rfl, hnr, hsr, hlv, hmr⟩ := hrel
        have HNR := Lib.hid hnr
        have HSR := Lib.hid hsr
        have HLV := Lib.hid hlv
        have HMR := Lib.hid hmr
        clear hnr hsr hlv hmr HN2 HS2
        have HBR : Hid (Below nb wA wr) := HB2.out.trans (HMR.out.below (by have := HB2.out.size; have := HNB.out; omega) (fun x e => by rcases e with e | e <;> omega))
        have HBW : Hid (Below w.heap.size w wr) := HBA.out.trans (HBR.out.mono (by have := HRB.out; omega))
        have HPR := Lib.hid (HP.out.below HBW.out)
        have HRR := Lib.hid (HRK.out.below HBR.out hrn)
        by_cases hjM : j < i
        · as_aux_lemma =>
            have hjL : j < L.length := by rw [HM.out]; exact hjM
            have ha := HAO.out (by omega)
            subst ha
            obtain ⟨q0, _⟩ := HPR.out.c j hjL
            obtain ⟨x, HX⟩ : ∃ x, Hid ((PA L j).leaf = x) := ⟨_, rfl⟩
            rw [HX.out] at q0
            have g1 : (j : Int) < (i : Int) := by omega
            have g2 : (0 : Int) ≤ (j : Int) := by omega
            by_cases hx : x < 0
            · have t1 : decide (x < 0) = true := decide_eq_true hx
              have HNX : Hid (Blk wr nb 3 (natV (rowF i (nodeI L (j + 1))))) := by
                have e : rowF i (nodeI L (j + 1)) = rowF i (nodeI L j) := rowF_congr fun y hy => by
                  unfold nodeI
                  by_cases e : y = j
                  · subst e
                    rw [if_neg (fun h => h.2 (by rw [HX.out]; exact hx)), if_neg (fun h => h.2 (by rw [HX.out]; exact hx))]
                  · by_cases c : y < j ∧ ¬ (PA L y).leaf < 0
                    · rw [if_pos c, if_pos ⟨by omega, c.2⟩]
                    · rw [if_neg c, if_neg (fun h => c ⟨by omega, h.2⟩)]
                rw [e]; exact HNR.out
              have HSX : Hid (Blk wr sb 4 (boolV n (seenB L (j + 1)))) := by
                rw [boolV_congr (n := n) (g := seenB L j) fun y hy => Bool.eq_iff_iff.2 (by
                  rw [seenB_iff, seenB_iff]
                  constructor
                  · rintro ⟨p, h1, h2⟩
                    refine ⟨p, ?_, h2⟩
                    by_cases e : p = j
                    · subst e; rw [HX.out] at h2; omega
                    · omega
                  · rintro ⟨p, h1, h2⟩
                    exact ⟨p, by omega, h2⟩)]
                exact HSR.out
              have HLX : Hid (LvI L (j + 1)) := fun p hp hpl => by
                by_cases e : p = j
                · subst e; rw [HX.out] at hpl; exact absurd hx hpl
                · exact HLV.out p (by omega) hpl
              clear hx HNR HSR HLV
              go_wp2_with fail
              go_roundw
              case rel => exact ⟨j + 1, by omega, by go_num, HNX.out, HSX.out, HLX.out, HMR.out⟩
              case measure => simp [intOf]; omega
            · have t1 : decide (x < 0) = false := decide_eq_false hx
              have hx4 : x < 4096 := by
                rcases HWF.out j hjL with h | h
                · rw [HX.out] at h; exact h.2
                · rw [HX.out] at h; exact absurd h.1 hx
              obtain ⟨c, HCX⟩ : ∃ c : Nat, Hid (x = c) := ⟨x.toNat, by show _ = _; omega⟩
              have hxc := HCX.out
              subst hxc
              by_cases hbad : n ≤ c ∨ seenB L j c = true
              · have HNO : Hid (madeO L = none) := by
                  show _ = _
                  unfold madeO
                  rw [if_neg]
                  refine lv_bad hjL (by rw [HX.out]; exact hx) ?_
                  rw [HX.out, HN.out]
                  rcases hbad with h | h
                  · exact .inl (by omega)
                  · exact .inr (seenB_iff.1 h)
                have HRR2 := HRR.out
                by_cases hb1 : n ≤ c
                · have t2 : decide ((n : Int) ≤ (c : Int)) = true := decide_eq_true (by omega)
                  have t2' : decide (n ≤ c) = true := decide_eq_true hb1
                  clear hbad hb1 hx
                  go_wp2_with (with_reducible refine wpList_storeBlk rb 27 [.int .i64 0, .slice none 0 0, .slice none 0 0, .slice none 0 0, .slice none 0 0, .slice none 0 0] [.int .i64 0, .slice none 0 0, .slice none 0 0, .slice none 0 0, .slice none 0 0, .slice none 0 0] rfl rfl HRR2 rfl (by kernel_rfl) (by decide) ?_)
                  intro w2' hb2 hm2'
                  have HF : Hid (Below w.heap.size w w2') := bel_mod HBW.out hm2' (fun x e => by rw [e]; exact Nat.le_of_eq HRB.out)
                  have d0 := hb2.cell (i := 0) rfl
                  have d1 := hb2.cell (i := 1) rfl
                  have d2 := hb2.cell (i := 2) rfl
                  have d3 := hb2.cell (i := 3) rfl
                  have d4 := hb2.cell (i := 4) rfl
                  have d5 := hb2.cell (i := 5) rfl
                  clear hb2 hm2'
                  go_wp2_with fail
                  refine bodyPost_ret (v := .tuple #[.agg #[.int .i64 0, .slice none 0 0, .slice none 0 0, .slice none 0 0, .slice none 0 0, .slice none 0 0], .bool false]) (by simp [results, Tryz.results50, go_sem, d0, d1, d2, d3, d4, d5]) rfl ?_
                  exact ⟨(fun _ => rfl), (fun t ht => by rw [HNO.out] at ht; cases ht), HF.out⟩
                · have hb2 : seenB L j c = true := hbad.resolve_left hb1
                  have t2 : decide ((n : Int) ≤ (c : Int)) = false := decide_eq_false (by omega)
                  have t2' : decide (n ≤ c) = false := decide_eq_false hb1
                  have cs := HSR.out.cell (boolV_get (f := seenB L j) (show c < n by omega))
                  rw [hb2] at cs
                  have g3 : (c : Int) < (n : Int) := by omega
                  have g4 : (0 : Int) ≤ (c : Int) := by omega
                  clear hbad hb1 hb2 hx
                  go_wp2_with (with_reducible refine wpList_storeBlk rb 27 [.int .i64 0, .slice none 0 0, .slice none 0 0, .slice none 0 0, .slice none 0 0, .slice none 0 0] [.int .i64 0, .slice none 0 0, .slice none 0 0, .slice none 0 0, .slice none 0 0, .slice none 0 0] rfl rfl HRR2 rfl (by kernel_rfl) (by decide) ?_)
                  intro w2' hb2 hm2'
                  have HF : Hid (Below w.heap.size w w2') := bel_mod HBW.out hm2' (fun x e => by rw [e]; exact Nat.le_of_eq HRB.out)
                  have d0 := hb2.cell (i := 0) rfl
                  have d1 := hb2.cell (i := 1) rfl
                  have d2 := hb2.cell (i := 2) rfl
                  have d3 := hb2.cell (i := 3) rfl
                  have d4 := hb2.cell (i := 4) rfl
                  have d5 := hb2.cell (i := 5) rfl
                  clear hb2 hm2'
                  go_wp2_with fail
                  refine bodyPost_ret (v := .tuple #[.agg #[.int .i64 0, .slice none 0 0, .slice none 0 0, .slice none 0 0, .slice none 0 0, .slice none 0 0], .bool false]) (by simp [results, Tryz.results50, go_sem, d0, d1, d2, d3, d4, d5]) rfl ?_
                  exact ⟨(fun _ => rfl), (fun t ht => by rw [HNO.out] at ht; cases ht), HF.out⟩
              · have hcn : c < n := by omega
                have hb2 : seenB L j c = false := by
                  cases h : seenB L j c with
                  | true => exact absurd (.inr h) hbad
                  | false => rfl
                have HNX : Hid (Blk ((wr.setCell ⟨sb, c, none⟩ (.bool true)).setCell ⟨nb, j, none⟩ (.int .i64 (c : Int))) nb 3 (natV (rowF i (nodeI L (j + 1))))) := by
                  have e : rowF i (nodeI L (j + 1)) = (rowF i (nodeI L j)).set j c := by
                    rw [rowF_set]
                    refine rowF_congr fun y hy => ?_
                    show (if y < j + 1 ∧ ¬ (PA L y).leaf < 0 then (PA L y).leaf.toNat else 0) = (if y = j then c else if y < j ∧ ¬ (PA L y).leaf < 0 then (PA L y).leaf.toNat else 0)
                    by_cases e : y = j
                    · subst e
                      rw [if_pos ⟨by omega, by rw [HX.out]; exact hx⟩, if_pos rfl, HX.out, Int.toNat_natCast]
                    · rw [if_neg e]
                      by_cases cc : y < j ∧ ¬ (PA L y).leaf < 0
                      · rw [if_pos cc, if_pos ⟨by omega, cc.2⟩]
                      · rw [if_neg cc, if_neg (fun h => cc ⟨by omega, h.2⟩)]
                  rw [e]
                  exact blkN_set (HNR.out.other ⟨sb, c, none⟩ _ (by show nb ≠ sb; omega)) j c
                have HSX : Hid (Blk ((wr.setCell ⟨sb, c, none⟩ (.bool true)).setCell ⟨nb, j, none⟩ (.int .i64 (c : Int))) sb 4 (boolV n (seenB L (j + 1)))) := by
                  have e : boolV n (seenB L (j + 1)) = (boolV n (seenB L j)).set c (.bool true) := by
                    rw [boolV_set]
                    refine boolV_congr fun y hy => Bool.eq_iff_iff.2 ?_
                    by_cases e : y = c
                    · subst e
                      rw [if_pos rfl, seenB_iff]
                      exact ⟨fun _ => rfl, fun _ => ⟨j, by omega, HX.out⟩⟩
                    · rw [if_neg e, seenB_iff, seenB_iff]
                      constructor
                      · rintro ⟨p, h1, h2⟩
                        refine ⟨p, ?_, h2⟩
                        by_cases e2 : p = j
                        · subst e2; rw [HX.out] at h2; omega
                        · omega
                      · rintro ⟨p, h1, h2⟩
                        exact ⟨p, by omega, h2⟩
                  rw [e]
                  exact (HSR.out.set c (.bool true)).other ⟨nb, j, none⟩ _ (by show sb ≠ nb; omega)
                have HLX : Hid (LvI L (j + 1)) := fun p hp hpl => by
                  by_cases e : p = j
                  · subst e
                    rw [HX.out, HN.out]
                    refine ⟨by omega, fun p' h1 h2 => ?_⟩
                    have := seenB_iff.2 ⟨p', h1, h2⟩
                    rw [hb2] at this
                    cases this
                  · exact HLV.out p (by omega) hpl
                have HMX : Hid (Mod (fun x => x = nb ∨ x = sb) w2 ((wr.setCell ⟨sb, c, none⟩ (.bool true)).setCell ⟨nb, j, none⟩ (.int .i64 (c : Int)))) := (HMR.out.setCell ⟨sb, c, none⟩ (fun _ => .inr rfl) _).setCell ⟨nb, j, none⟩ (fun _ => .inl rfl) _
                have cs := HSR.out.cell (boolV_get (f := seenB L j) hcn)
                rw [hb2] at cs
                have fs := HSR.out.free c
                have cn := row_cell HNR.out hjM
                have fn := HNR.out.free j
                obtain ⟨z, hz⟩ : ∃ z, nodeI L j j = z := ⟨_, rfl⟩
                rw [hz] at cn
                have t2 : decide ((n : Int) ≤ (c : Int)) = false := decide_eq_false (by omega)
                have t2' : decide (n ≤ c) = false := decide_eq_false (by omega)
                have g3 : (c : Int) < (n : Int) := by omega
                have g4 : (0 : Int) ≤ (c : Int) := by omega
                have n1 : ¬ nb = sb := by omega
                have n2 : ¬ sb = nb := by omega
                clear hz hbad hb2 hx HNR HSR HLV
                go_wp2_with fail
                go_roundw
                case rel => exact ⟨j + 1, by omega, by go_num, HNX.out, HSX.out, HLX.out, HMX.out⟩
                case measure => simp [intOf]; omega
        · obtain rfl : j = i := by omega
          have HOK : Hid (LvOk L) := LvI.ok (by rw [HM.out]; exact HLV.out)
          have HN0 : Hid (Blk wr nb 3 (natV (rowF j (nodeF L 0)))) := by
            have e : rowF j (nodeI L j) = rowF j (nodeF L 0) := rowF_congr fun y hy => by
              have := nodeI_end (L := L) (p := y) (by rw [HM.out]; exact hy)
              rw [HM.out] at this
              exact this
            rw [← e]; exact HNR.out
          clear HNR HSR HLV HMR hjM
          obtain ⟨M, hMj⟩ : ∃ M, M = j := ⟨_, rfl⟩
          subst hMj
          generalize hwS : wr = wS at *
          clear hwS
          have HNM : Hid (n + (jsOf L).length = M) := by have := cnt_all L; rw [HN.out, HM.out] at this; exact this
          have HPO : Hid (madeO L = madeTo n (jsOf L) (jsOf L).length) := by show _ = _; unfold madeO; rw [if_pos HOK.out, HN.out]
          have HBX := Lib.hid (Blk.new wS 27 [.int .i64 (n : Int), .slice none 0 0, .slice none 0 0, .slice none 0 0, .slice none 0 0, .slice none 0 0])
          have HWB := Lib.hid (bel_alloc wS (.cells #[.int .i64 (n : Int), .slice none 0 0, .slice none 0 0, .slice none 0 0, .slice none 0 0, .slice none 0 0] 27))
          have HNLT : Hid (nb < wS.heap.size) := HN0.out.lt
          clear HPA HPR HB2 HGL
          go_wp2_with fail
          generalize hBq : wS.heap.size = B at *
          have HBQ := Lib.hid hBq
          clear hBq
          have hnB := HNLT.out
          have HT0 : Hid (RTr B (wS.alloc (.cells #[.int .i64 (n : Int), .slice none 0 0, .slice none 0 0, .slice none 0 0, .slice none 0 0, .slice none 0 0] 27)) B nilV (lvT n 0)) := RTr.start HBX.out (Nat.le_refl _)
          go_loopw [11] (fun s wx => ∃ (q : Nat) (V : RV), q ≤ M ∧ s = .int .i64 (q : Int) ∧ RTr B wx B V (lvT n q) ∧ Below B wS wx) (fun s _ => M - (intOf s).toNat)
          case atStart => exact ⟨0, _, Nat.zero_le _, rfl, HT0.out, HWB.out⟩
          case round =>
            obtain ⟨q, V, hq, rfl, htr, hbl⟩ := hrel
            have HTR := Lib.hid htr
            have HWR := Lib.hid hbl
            clear htr hbl HT0 HWB HBX
            by_cases hqM : q < M
            · as_aux_lemma =>
                obtain ⟨t, HTE⟩ : ∃ t, Hid (lvT n q = t) := ⟨_, rfl⟩
                have HL : Hid (∀ y, y < 5 → (t.at y).length ≤ 100000) := fun y hy => by
                  have := lv_at_len n q y hy
                  rw [HTE.out] at this
                  omega
                have HR0 : Hid (RTr B wr B V t) := by rw [← HTE.out]; exact HTR.out
                have HB0 := Lib.hid (Below.refl B wr)
                have HZ0 : Hid (B ≤ wr.heap.size) := by have := HWR.out.size; have := HBQ.out; show _ ≤ _; omega
                have c1 := HR0.out.box.cell (i := 1) rfl
                have g1 : (q : Int) < (M : Int) := by omega
                have HOW0 : Hid ((wr.alloc (.cells #[.int .i64 (-1)] 3)).ownsRow 0 3 1 V.l t.left.length (intV t.left)) := (HR0.out.own 0 (by omega)).alloc _
                have HNW0 := Lib.hid (news_new wr 3 [.int .i64 (-1)])
                have hln : t.left.length ≤ 100000 := HL.out 0 (by omega)
                go_wp2_with (at_builtin; apply keepIt)
                apply Lib.hid
                clear c1
                refine wpList_appendB 3 (.int .i64 0) 1 8 Tryz.underlying24 Tryz.infoInt rfl (by decide) _ t.left.length _ rfl HOW0.out ⟨wr.heap.size, 0, none⟩ 1 1 [.int .i64 (-1)] rfl rfl HNW0.out (by simp [Value.oneCell']) (by unfold maxLen; omega) (by omega) ?_
                intro v1 w1 ho1 hg1 hn1
                obtain ⟨a1, k1, rfl⟩ := owns_slice ho1
                obtain ⟨hr1, hb1, hx1⟩ := HR0.out.app (i := 0) (by omega) HZ0.out ho1 hg1 hn1
                have HR1 := Lib.hid hr1
                have HB1 := Lib.hid (HB0.out.trans hb1)
                have HZ1 := Lib.hid (Nat.le_trans HZ0.out hb1.size)
                have c1 := hx1.cell (i := 1) rfl
                have f1 := hx1.free 1
                have c2 := hx1.cell (i := 2) rfl
                clear ho1 hg1 hn1 hr1 hb1 hx1 HOW0 HNW0 hln HR0 HB0 HZ0
                have HOW1 : Hid (((w1.setCell ⟨B, 1, none⟩ (.slice a1 (t.left.length + 1) k1)).alloc (.cells #[.int .i64 (-1)] 3)).ownsRow 0 3 1 V.r t.right.length (intV t.right)) := (HR1.out.own 1 (by omega)).alloc _
                have HNW1 := Lib.hid (news_set w1 ⟨B, 1, none⟩ (.slice a1 (t.left.length + 1) k1) 3 [.int .i64 (-1)])
                have hln : t.right.length ≤ 100000 := HL.out 1 (by omega)
                go_wp2_with (at_builtin; apply keepIt)
                apply Lib.hid
                clear c2
                refine wpList_appendB 3 (.int .i64 0) 1 8 Tryz.underlying24 Tryz.infoInt rfl (by decide) _ t.right.length _ rfl HOW1.out ⟨w1.heap.size, 0, none⟩ 1 1 [.int .i64 (-1)] rfl rfl HNW1.out (by simp [Value.oneCell']) (by unfold maxLen; omega) (by omega) ?_
                intro v2 w2 ho2 hg2 hn2
                obtain ⟨a2, k2, rfl⟩ := owns_slice ho2
                obtain ⟨hr2, hb2, hx2⟩ := HR1.out.app (i := 1) (by omega) HZ1.out ho2 hg2 hn2
                have HR2 := Lib.hid hr2
                have HB2 := Lib.hid (HB1.out.trans hb2)
                have HZ2 := Lib.hid (Nat.le_trans HZ1.out hb2.size)
                have c2 := hx2.cell (i := 2) rfl
                have f2 := hx2.free 2
                have c3 := hx2.cell (i := 3) rfl
                clear ho2 hg2 hn2 hr2 hb2 hx2 HOW1 HNW1 hln HR1 HB1 HZ1
                have HOW2 : Hid (((w2.setCell ⟨B, 2, none⟩ (.slice a2 (t.right.length + 1) k2)).alloc (.cells #[.int .i64 (-1)] 3)).ownsRow 0 3 1 V.p t.par.length (intV t.par)) := (HR2.out.own 2 (by omega)).alloc _
                have HNW2 := Lib.hid (news_set w2 ⟨B, 2, none⟩ (.slice a2 (t.right.length + 1) k2) 3 [.int .i64 (-1)])
                have hln : t.par.length ≤ 100000 := HL.out 2 (by omega)
                go_wp2_with (at_builtin; apply keepIt)
                apply Lib.hid
                clear c3
                refine wpList_appendB 3 (.int .i64 0) 1 8 Tryz.underlying24 Tryz.infoInt rfl (by decide) _ t.par.length _ rfl HOW2.out ⟨w2.heap.size, 0, none⟩ 1 1 [.int .i64 (-1)] rfl rfl HNW2.out (by simp [Value.oneCell']) (by unfold maxLen; omega) (by omega) ?_
                intro v3 w3 ho3 hg3 hn3
                obtain ⟨a3, k3, rfl⟩ := owns_slice ho3
                obtain ⟨hr3, hb3, hx3⟩ := HR2.out.app (i := 2) (by omega) HZ2.out ho3 hg3 hn3
                have HR3 := Lib.hid hr3
                have HB3 := Lib.hid (HB2.out.trans hb3)
                have HZ3 := Lib.hid (Nat.le_trans HZ2.out hb3.size)
                have c3 := hx3.cell (i := 3) rfl
                have f3 := hx3.free 3
                have c4 := hx3.cell (i := 4) rfl
                clear ho3 hg3 hn3 hr3 hb3 hx3 HOW2 HNW2 hln HR2 HB2 HZ2
                have HOW3 : Hid (((w3.setCell ⟨B, 3, none⟩ (.slice a3 (t.par.length + 1) k3)).alloc (.cells #[.int .i64 0] 2)).ownsRow 0 2 1 V.h t.hgt.length (intV t.hgt)) := (HR3.out.own 3 (by omega)).alloc _
                have HNW3 := Lib.hid (news_set w3 ⟨B, 3, none⟩ (.slice a3 (t.par.length + 1) k3) 2 [.int .i64 0])
                have hln : t.hgt.length ≤ 100000 := HL.out 3 (by omega)
                go_wp2_with (at_builtin; apply keepIt)
                apply Lib.hid
                clear c4
                refine wpList_appendB 2 (.int .i64 0) 1 8 Tryz.underlying25 Tryz.infoI64 rfl (by decide) _ t.hgt.length _ rfl HOW3.out ⟨w3.heap.size, 0, none⟩ 1 1 [.int .i64 0] rfl rfl HNW3.out (by simp [Value.oneCell']) (by unfold maxLen; omega) (by omega) ?_
                intro v4 w4 ho4 hg4 hn4
                obtain ⟨a4, k4, rfl⟩ := owns_slice ho4
                obtain ⟨hr4, hb4, hx4⟩ := HR3.out.app (i := 3) (by omega) HZ3.out ho4 hg4 hn4
                have HR4 := Lib.hid hr4
                have HB4 := Lib.hid (HB3.out.trans hb4)
                have HZ4 := Lib.hid (Nat.le_trans HZ3.out hb4.size)
                have c4 := hx4.cell (i := 4) rfl
                have f4 := hx4.free 4
                have c5 := hx4.cell (i := 5) rfl
                clear ho4 hg4 hn4 hr4 hb4 hx4 HOW3 HNW3 hln HR3 HB3 HZ3
                have HOW4 : Hid (((w4.setCell ⟨B, 4, none⟩ (.slice a4 (t.hgt.length + 1) k4)).alloc (.cells #[.int .i64 1] 3)).ownsRow 0 3 1 V.s t.siz.length (intV t.siz)) := (HR4.out.own 4 (by omega)).alloc _
                have HNW4 := Lib.hid (news_set w4 ⟨B, 4, none⟩ (.slice a4 (t.hgt.length + 1) k4) 3 [.int .i64 1])
                have hln : t.siz.length ≤ 100000 := HL.out 4 (by omega)
                go_wp2_with (at_builtin; apply keepIt)
                apply Lib.hid
                clear c5
                refine wpList_appendB 3 (.int .i64 0) 1 8 Tryz.underlying24 Tryz.infoInt rfl (by decide) _ t.siz.length _ rfl HOW4.out ⟨w4.heap.size, 0, none⟩ 1 1 [.int .i64 1] rfl rfl HNW4.out (by simp [Value.oneCell']) (by unfold maxLen; omega) (by omega) ?_
                intro v5 w5 ho5 hg5 hn5
                obtain ⟨a5, k5, rfl⟩ := owns_slice ho5
                obtain ⟨hr5, hb5, hx5⟩ := HR4.out.app (i := 4) (by omega) HZ4.out ho5 hg5 hn5
                have HR5 := Lib.hid hr5
                have HB5 := Lib.hid (HB4.out.trans hb5)
                have HZ5 := Lib.hid (Nat.le_trans HZ4.out hb5.size)
                have c5 := hx5.cell (i := 5) rfl
                have f5 := hx5.free 5
                clear ho5 hg5 hn5 hr5 hb5 hx5 HOW4 HNW4 hln HR4 HB4 HZ4
                have HRE : Hid (RTr B (w5.setCell ⟨B, 5, none⟩ (.slice a5 (t.siz.length + 1) k5)) B ((((((V.put 0 (.slice a1 (t.left.length + 1) k1)).put 1 (.slice a2 (t.right.length + 1) k2)).put 2 (.slice a3 (t.par.length + 1) k3)).put 3 (.slice a4 (t.hgt.length + 1) k4)).put 4 (.slice a5 (t.siz.length + 1) k5))) (lvT n (q + 1))) := by
                  have e : lvT n (q + 1) = t.add (-1) (-1) 0 1 := by rw [lvT_succ, HTE.out]; rfl
                  show RTr _ _ _ _ _
                  rw [e]; exact HR5.out
                have HBE := Lib.hid (HWR.out.trans HB5.out)
                clear HR5 HB5 HZ5 HTR HWR hqM
                go_wp2_with fail
                go_roundw
                case rel => exact ⟨q + 1, _, by omega, by go_num, HRE.out, HBE.out⟩
                case measure => simp [intOf]; omega
            · obtain rfl : q = M := by omega
              have HM0 : Hid (madeTo n (jsOf L) 0 = some (lvT n q)) := by
                show some (t0R n (jsOf L).length) = _
                rw [← HNM.out]; rfl
              have HN1 := Lib.hid (HN0.out.below HWR.out HNLT.out)
              have HW1 : Hid (Mod (fun x => x = nb) wS wr) := Mod.of_below (by rw [HBQ.out]; exact HWR.out)
              clear HN0 HWR hqM
              obtain ⟨M, hMq⟩ : ∃ M, M = q := ⟨_, rfl⟩
              subst hMq
              go_wp2_with fail
              go_loopw [12] (fun s wx => ∃ (k : Nat) (t : Tr) (V : RV), n + k ≤ M ∧ s = .int .i64 ((n + k : Nat) : Int) ∧ madeTo n (jsOf L) k = some t ∧ RTr B wx B V t ∧ Blk wx nb 3 (natV (rowF M (nodeF L k))) ∧ Mod (fun x => x = nb) wS wx) (fun s _ => M - (intOf s).toNat)
              case atStart => exact ⟨0, _, _, by omega, rfl, HM0.out, HTR.out, HN1.out, HW1.out⟩
              case round =>
                obtain ⟨k, t, V2, hk, rfl, hmt, htr, hnr, hmd⟩ := hrel
                clear HTR HN1 HW1 HM0
                have HMT := Lib.hid hmt
                have HTR := Lib.hid htr
                have HNR := Lib.hid hnr
                have HMD := Lib.hid hmd
                clear hmt htr hnr hmd
                have HWW : Hid (∀ W, Mod (fun x => x = nb) wS W → Below w.heap.size w W) := fun W h => bel_mod HBW.out h (fun x e => by rw [e, HRB.out]; omega)
                obtain ⟨X, HX⟩ : ∃ X, Hid (n + k = X) := ⟨_, rfl⟩
                rw [HX.out] at hk ⊢
                by_cases hkM : X < M
                · have hkm : k < (jsOf L).length := by have := HNM.out; have := HX.out; omega
                  have hn1 : 0 < n := by have := leaf_pos HWF.out (by rw [HM.out]; omega); rw [HN.out] at this; exact this
                  have ha := HAO.out (by omega)
                  subst ha
                  have HSE := Lib.hid (scan_end hkm)
                  have g1 : (X : Int) < (M : Int) := by omega
                  go_wp2_with fail
                  go_loopw [13, 14] (fun s13 s14 wi => ∃ i : Nat, i ≤ M ∧ s13 = .int .i64 (scanTo L k i) ∧ s14 = .int .i64 (i : Int) ∧ RTr B wi B V2 t ∧ Blk wi nb 3 (natV (rowF M (nodeF L k))) ∧ Mod (fun x => x = nb) wS wi) (fun _ s14 _ => M - (intOf s14).toNat)
                  case atStart => exact ⟨0, Nat.zero_le _, rfl, rfl, HTR.out, HNR.out, HMD.out⟩
                  case round =>
                    obtain ⟨i, hi, rfl, rfl, htr, hnr, hmd⟩ := hrel
                    clear HTR HNR HMD
                    have HTR := Lib.hid htr
                    have HNR := Lib.hid hnr
                    have HMD := Lib.hid hmd
                    clear htr hnr hmd
                    have HPW := Lib.hid (HP.out.below (HWW.out _ HMD.out))
                    by_cases hiM : i < M
                    · as_aux_lemma =>
                        have hiL : i < L.length := by rw [HM.out]; exact hiM
                        obtain ⟨q0, _, _, q3⟩ := HPW.out.c i hiL
                        have cn := row_cell HNR.out hiM
                        have HUN := Lib.hid (unp_iff (k := k) HWF.out hiL)
                        have HSI := Lib.hid (scan_inv L k i)
                        obtain ⟨S, HS⟩ : ∃ S, Hid (scanTo L k i = S) := ⟨_, rfl⟩
                        have HSN : Hid (scanTo L k (i + 1) = if unp L k i ∧ (S < 0 ∨ (PA L i).h < (PA L S.toNat).h) then (i : Int) else S) := by show _ = _; rw [scanTo, HS.out]
                        rw [HS.out] at HSI ⊢
                        obtain ⟨x, HXX⟩ : ∃ x, Hid ((PA L i).leaf = x) := ⟨_, rfl⟩
                        obtain ⟨z, HZZ⟩ : ∃ z, Hid (nodeF L k i = z) := ⟨_, rfl⟩
                        obtain ⟨hh, HHH⟩ : ∃ z, Hid ((PA L i).h = z) := ⟨_, rfl⟩
                        rw [HXX.out] at q0 HUN
                        rw [HHH.out] at q3 HSN
                        rw [HZZ.out] at cn HUN
                        have g2 : (i : Int) < (M : Int) := by omega
                        have g3 : (0 : Int) ≤ (i : Int) := by omega
                        by_cases hx : x < 0
                        · have t1 : decide (x < 0) = true := decide_eq_true hx
                          by_cases hz : z = 0
                          · have hun := HUN.out.2 ⟨hx, hz⟩
                            subst hz
                            rcases HSI.out with ⟨rfl, _⟩ | ⟨p, rfl, hp, _⟩
                            · have HS2 : Hid (scanTo L k (i + 1) = (i : Int)) := HSN.out.trans (if_pos ⟨hun, .inl (by omega)⟩)
                              clear HSI HUN HSN hun hx
                              go_wp2_with fail
                              go_quiet (fail)
                              have HTR2 := Lib.hid (HTR.out.drewN nq)
                              have HNR2 := Lib.hid (HNR.out.drewN nq)
                              have HMD2 := Lib.hid (HMD.out.drewN nq)
                              clear HTR HNR HMD HPW
                              generalize wr.drewN nq = w7 at *
                              go_wp2_with fail
                              go_roundw
                              case rel => exact ⟨i + 1, by omega, by rw [HS2.out], by go_num, HTR2.out, HNR2.out, HMD2.out⟩
                              case measure => simp [intOf]; omega
                            · obtain ⟨_, _, _, p3⟩ := HPW.out.c p (by rw [HM.out]; omega)
                              rw [Int.toNat_natCast] at HSN
                              generalize (PA L p).h = hp3 at *
                              have g4 : (p : Int) < (M : Int) := by omega
                              have g5 : (0 : Int) ≤ (p : Int) := by omega
                              have t3 : decide ((p : Int) < 0) = false := decide_eq_false (by omega)
                              by_cases hlt : hh < hp3
                              · have t4 : decide (hh < hp3) = true := decide_eq_true hlt
                                have HS2 : Hid (scanTo L k (i + 1) = (i : Int)) := HSN.out.trans (if_pos ⟨hun, .inr hlt⟩)
                                clear HSI HUN HSN hun hx hlt
                                go_wp2_with fail
                                go_quiet (fail)
                                have HTR2 := Lib.hid (HTR.out.drewN nq)
                                have HNR2 := Lib.hid (HNR.out.drewN nq)
                                have HMD2 := Lib.hid (HMD.out.drewN nq)
                                clear HTR HNR HMD HPW
                                generalize wr.drewN nq = w7 at *
                                go_wp2_with fail
                                go_roundw
                                case rel => exact ⟨i + 1, by omega, by rw [HS2.out], by go_num, HTR2.out, HNR2.out, HMD2.out⟩
                                case measure => simp [intOf]; omega
                              · have t4 : decide (hh < hp3) = false := decide_eq_false hlt
                                have HS2 : Hid (scanTo L k (i + 1) = (p : Int)) := HSN.out.trans (if_neg (fun h => h.2.elim (fun h => by omega) hlt))
                                clear HSI HUN HSN hun hx hlt
                                go_wp2_with fail
                                go_quiet (fail)
                                have HTR2 := Lib.hid (HTR.out.drewN nq)
                                have HNR2 := Lib.hid (HNR.out.drewN nq)
                                have HMD2 := Lib.hid (HMD.out.drewN nq)
                                clear HTR HNR HMD HPW
                                generalize wr.drewN nq = w7 at *
                                go_wp2_with fail
                                go_roundw
                                case rel => exact ⟨i + 1, by omega, by rw [HS2.out], by go_num, HTR2.out, HNR2.out, HMD2.out⟩
                                case measure => simp [intOf]; omega
                          · have t2 : ((z : Int) == 0) = false := by simp; exact hz
                            have t2' : (z == 0) = false := by simp; exact hz
                            have t2'' : decide (z = 0) = false := decide_eq_false hz
                            have HS2 : Hid (scanTo L k (i + 1) = S) := HSN.out.trans (if_neg (fun h => hz (HUN.out.1 h.1).2))
                            clear HSI HUN HSN hx hz
                            go_wp2_with fail
                            go_quiet (fail)
                            have HTR2 := Lib.hid (HTR.out.drewN nq)
                            have HNR2 := Lib.hid (HNR.out.drewN nq)
                            have HMD2 := Lib.hid (HMD.out.drewN nq)
                            clear HTR HNR HMD HPW
                            generalize wr.drewN nq = w7 at *
                            go_wp2_with fail
                            go_roundw
                            case rel => exact ⟨i + 1, by omega, by rw [HS2.out], by go_num, HTR2.out, HNR2.out, HMD2.out⟩
                            case measure => simp [intOf]; omega
                        · have t1 : decide (x < 0) = false := decide_eq_false hx
                          have HS2 : Hid (scanTo L k (i + 1) = S) := HSN.out.trans (if_neg (fun h => hx (HUN.out.1 h.1).1))
                          clear HSI HUN HSN hx
                          go_wp2_with fail
                          go_quiet (fail)
                          have HTR2 := Lib.hid (HTR.out.drewN nq)
                          have HNR2 := Lib.hid (HNR.out.drewN nq)
                          have HMD2 := Lib.hid (HMD.out.drewN nq)
                          clear HTR HNR HMD HPW
                          generalize wr.drewN nq = w7 at *
                          go_wp2_with fail
                          go_roundw
                          case rel => exact ⟨i + 1, by omega, by rw [HS2.out], by go_num, HTR2.out, HNR2.out, HMD2.out⟩
                          case measure => simp [intOf]; omega
                    · obtain rfl : i = M := by omega
                      obtain ⟨M, hMi⟩ : ∃ M, M = i := ⟨_, rfl⟩
                      subst hMi
                      obtain ⟨p, hs1, hpL, hpi, hpr, hpo⟩ := HSE.out
                      rw [HM.out] at hs1 hpL
                      rw [hs1]
                      clear hs1 hiM HSE
                      have hpLL : p < L.length := by rw [HM.out]; exact hpL
                      have hwp := HWF.out p hpLL
                      obtain ⟨_, wl0, wl1, wr0, wr1, hin⟩ := hwp.resolve_left (fun h => by omega)
                      obtain ⟨a0, HA0⟩ : ∃ a : Nat, Hid ((PA L p).left = (a : Int)) := ⟨(PA L p).left.toNat, by show _ = _; omega⟩
                      obtain ⟨b0, HB0⟩ : ∃ a : Nat, Hid ((PA L p).right = (a : Int)) := ⟨(PA L p).right.toNat, by show _ = _; omega⟩
                      have ha0 : a0 < p := by have := HA0.out; omega
                      have hb0 : b0 < p := by have := HB0.out; omega
                      have haL : a0 < L.length := by omega
                      have hbL : b0 < L.length := by omega
                      clear hwp wl0 wl1 wr0 wr1
                      obtain ⟨jq, HJQ⟩ : ∃ j, Hid ((ordJ (jsOf L)).getD k 0 = j) := ⟨_, rfl⟩
                      have HJS : Hid (JA (jsOf L) jq = ⟨cdP L a0, cdP L b0, (PA L p).h⟩) := by
                        have := js_at hpLL hpi
                        rw [hpo, HA0.out, HB0.out, Int.toNat_natCast, Int.toNat_natCast, HJQ.out] at this
                        exact this
                      have HRKJ : Hid (rkJ (jsOf L) jq = k) := by rw [hpo, HJQ.out] at hpr; exact hpr
                      have HCA := Lib.hid (child_ok HWF.out (k := k) haL)
                      have HCB := Lib.hid (child_ok HWF.out (k := k) hbL)
                      have HNA : Hid (ChOk (jsOf L) k (cdP L a0) → nd n (jsOf L) (cdP L a0) = nodeF L k a0) := fun h => by have := child_nd h; rw [HN.out] at this; exact this
                      have HNB2 : Hid (ChOk (jsOf L) k (cdP L b0) → nd n (jsOf L) (cdP L b0) = nodeF L k b0) := fun h => by have := child_nd h; rw [HN.out] at this; exact this
                      have hAM : nodeF L k a0 < M := by have := nodeF_lt (k := k) HOK.out haL; rw [HM.out] at this; exact this
                      have hBM : nodeF L k b0 < M := by have := nodeF_lt (k := k) HOK.out hbL; rw [HM.out] at this; exact this
                      have HEA : Hid (nodeF L (k + 1) a0 = nodeF L k a0) := by
                        have := nodeF_step hpLL hpi hpr haL
                        rw [if_neg (by omega)] at this
                        exact this
                      have HEB : Hid (nodeF L (k + 1) b0 = nodeF L k b0) := by
                        have := nodeF_step hpLL hpi hpr hbL
                        rw [if_neg (by omega)] at this
                        exact this
                      have HN2 : Hid (Blk (wr.setCell ⟨nb, p, none⟩ (.int .i64 (X : Int))) nb 3 (natV (rowF M (nodeF L (k + 1))))) := by
                        have e : rowF M (nodeF L (k + 1)) = (rowF M (nodeF L k)).set p X := by
                          rw [rowF_set]
                          refine rowF_congr fun y hy => ?_
                          have := nodeF_step hpLL hpi hpr (p := y) (by rw [HM.out]; exact hy)
                          rw [HN.out, HX.out] at this
                          exact this
                        rw [e]; exact blkN_set HNR.out p X
                      have HMD2 : Hid (Mod (fun x => x = nb) wS (wr.setCell ⟨nb, p, none⟩ (.int .i64 (X : Int)))) := HMD.out.setCell ⟨nb, p, none⟩ (fun _ => rfl) _
                      have HTR2 : Hid (RTr B (wr.setCell ⟨nb, p, none⟩ (.int .i64 (X : Int))) B V2 t) := HTR.out.modF (Mod.setCell (Mod.refl (fun x => x = nb) wr) ⟨nb, p, none⟩ (fun _ => rfl) _) (fun x hx e => by omega)
                      have cn := row_cell HNR.out hpL
                      have fn := HNR.out.free p
                      obtain ⟨zo, hzo⟩ : ∃ z, nodeF L k p = z := ⟨_, rfl⟩
                      rw [hzo] at cn
                      have g4 : (p : Int) < (M : Int) := by omega
                      have g5 : (0 : Int) ≤ (p : Int) := by omega
                      clear hzo HTR HNR HMD HPW hpi hpr hpo hin
                      go_upto_region 37 with fail
                      clear cn fn
                      generalize wr.setCell ⟨nb, p, none⟩ (.int .i64 (X : Int)) = W1 at *
                      have HPW := Lib.hid (HP.out.below (HWW.out _ HMD2.out))
                      obtain ⟨_, q1, q2, q3⟩ := HPW.out.c p hpLL
                      rw [HA0.out] at q1
                      rw [HB0.out] at q2
                      obtain ⟨qa, _⟩ := HPW.out.c a0 haL
                      obtain ⟨qb, _⟩ := HPW.out.c b0 hbL
                      have na := row_cell HN2.out (show a0 < M by omega)
                      have nbc := row_cell HN2.out (show b0 < M by omega)
                      rw [HEA.out] at na
                      rw [HEB.out] at nbc
                      obtain ⟨A, HA⟩ : ∃ A, Hid (nodeF L k a0 = A) := ⟨_, rfl⟩
                      obtain ⟨C, HC⟩ : ∃ A, Hid (nodeF L k b0 = A) := ⟨_, rfl⟩
                      obtain ⟨la, HLA⟩ : ∃ A, Hid ((PA L a0).leaf = A) := ⟨_, rfl⟩
                      obtain ⟨lb, HLB⟩ : ∃ A, Hid ((PA L b0).leaf = A) := ⟨_, rfl⟩
                      obtain ⟨hh, HHH⟩ : ∃ A, Hid ((PA L p).h = A) := ⟨_, rfl⟩
                      rw [HA.out] at na hAM HNA HCA
                      rw [HC.out] at nbc hBM HNB2 HCB
                      rw [HLA.out] at qa HCA
                      rw [HLB.out] at qb HCB
                      rw [HHH.out] at q3 HJS
                      have g6 : (a0 : Int) < (M : Int) := by omega
                      have g7 : (0 : Int) ≤ (a0 : Int) := by omega
                      have g8 : (b0 : Int) < (M : Int) := by omega
                      have g9 : (0 : Int) ≤ (b0 : Int) := by omega
                      clear HEA HEB HPW
                      go_wp2_with fail
                      go_quiet (fail)
                      have HN3 := Lib.hid (HN2.out.drewN nq)
                      have HMD3 := Lib.hid (HMD2.out.drewN nq)
                      have HTR3 := Lib.hid (HTR2.out.drewN nq)
                      clear q1 q2 q3 qa qb na nbc HN2 HMD2 HTR2
                      generalize W1.drewN nq = W2 at *
                      have HPW := Lib.hid (HP.out.below (HWW.out _ HMD3.out))
                      obtain ⟨_, q1, q2, q3⟩ := HPW.out.c p hpLL
                      rw [HA0.out] at q1
                      rw [HB0.out] at q2
                      rw [HHH.out] at q3
                      obtain ⟨qa, _⟩ := HPW.out.c a0 haL
                      obtain ⟨qb, _⟩ := HPW.out.c b0 hbL
                      rw [HLA.out] at qa
                      rw [HLB.out] at qb
                      obtain ⟨bb, HBB⟩ : ∃ bb, Hid (((decide (la < 0) && decide (A = 0)) || (decide (lb < 0) && decide (C = 0))) = bb) := ⟨_, rfl⟩
                      go_upto_region 38 with fail
                      go_cut [192] (fun s wx => s = .bool bb ∧ W2 = wx)
                      case first => as_aux_lemma =>
                          have hbb := HBB.out
                          clear HBB HN3 HMD3 HTR3 HPW q3
                          by_cases ha : la < 0
                          · have ta : decide (la < 0) = true := decide_eq_true ha
                            by_cases ka : A = 0
                            · subst ka
                              obtain rfl : bb = true := by rw [← hbb]; simp [*]
                              clear hbb
                              go_wp2_with fail
                              go_meet
                              exact ⟨rfl, rfl⟩
                            · have ya : ((A : Int) == 0) = false := by simp; exact ka
                              have ya' : (A == 0) = false := by simp; exact ka
                              have ya'' : decide (A = 0) = false := decide_eq_false ka
                              by_cases hb : lb < 0
                              · have tb : decide (lb < 0) = true := decide_eq_true hb
                                by_cases kb : C = 0
                                · subst kb
                                  obtain rfl : bb = true := by rw [← hbb]; simp [*]
                                  clear hbb
                                  go_wp2_with fail
                                  go_meet
                                  exact ⟨rfl, rfl⟩
                                · have yb : ((C : Int) == 0) = false := by simp; exact kb
                                  have yb' : (C == 0) = false := by simp; exact kb
                                  have yb'' : decide (C = 0) = false := decide_eq_false kb
                                  obtain rfl : bb = false := by rw [← hbb]; simp [*]
                                  clear hbb
                                  go_wp2_with fail
                                  go_meet
                                  exact ⟨rfl, rfl⟩
                              · have tb : decide (lb < 0) = false := decide_eq_false hb
                                obtain rfl : bb = false := by rw [← hbb]; simp [*]
                                clear hbb
                                go_wp2_with fail
                                go_meet
                                exact ⟨rfl, rfl⟩
                          · have ta : decide (la < 0) = false := decide_eq_false ha
                            by_cases hb : lb < 0
                            · have tb : decide (lb < 0) = true := decide_eq_true hb
                              by_cases kb : C = 0
                              · subst kb
                                obtain rfl : bb = true := by rw [← hbb]; simp [*]
                                clear hbb
                                go_wp2_with fail
                                go_meet
                                exact ⟨rfl, rfl⟩
                              · have yb : ((C : Int) == 0) = false := by simp; exact kb
                                have yb' : (C == 0) = false := by simp; exact kb
                                have yb'' : decide (C = 0) = false := decide_eq_false kb
                                obtain rfl : bb = false := by rw [← hbb]; simp [*]
                                clear hbb
                                go_wp2_with fail
                                go_meet
                                exact ⟨rfl, rfl⟩
                            · have tb : decide (lb < 0) = false := decide_eq_false hb
                              obtain rfl : bb = false := by rw [← hbb]; simp [*]
                              clear hbb
                              go_wp2_with fail
                              go_meet
                              exact ⟨rfl, rfl⟩
                      case rest =>
                        obtain ⟨rfl, rfl⟩ := hcut
                        cases bb with
                        | true =>
                          have HNO : Hid (madeO L = none) := by
                            show _ = _
                            rw [HPO.out]
                            refine madeTo_none (i := k + 1) ?_ _ hkm
                            rw [madeTo, HMT.out]
                            simp only
                            rw [if_neg]
                            rw [HJQ.out, HJS.out]
                            rintro ⟨h1, h2⟩
                            have k1 := HCA.out.1 h1
                            have k2 := HCB.out.1 h2
                            have := HBB.out
                            simp only [Bool.or_eq_true, Bool.and_eq_true, decide_eq_true_eq] at this
                            exact this.elim k1 k2
                          have HRR2 := HRR.out.mod HMD3.out (by omega)
                          have HBW2 := Lib.hid (HWW.out _ HMD3.out)
                          clear q1 q2 q3 qa qb HBB
                          go_wp2_with (with_reducible refine wpList_storeBlk rb 27 [.int .i64 0, .slice none 0 0, .slice none 0 0, .slice none 0 0, .slice none 0 0, .slice none 0 0] [.int .i64 0, .slice none 0 0, .slice none 0 0, .slice none 0 0, .slice none 0 0, .slice none 0 0] rfl rfl HRR2 rfl (by kernel_rfl) (by decide) ?_)
                          intro w2' hb2 hm2'
                          have HF : Hid (Below w.heap.size w w2') := bel_mod HBW2.out hm2' (fun x e => by rw [e]; exact Nat.le_of_eq HRB.out)
                          have d0 := hb2.cell (i := 0) rfl
                          have d1 := hb2.cell (i := 1) rfl
                          have d2 := hb2.cell (i := 2) rfl
                          have d3 := hb2.cell (i := 3) rfl
                          have d4 := hb2.cell (i := 4) rfl
                          have d5 := hb2.cell (i := 5) rfl
                          clear hb2 hm2'
                          go_wp2_with fail
                          refine bodyPost_ret (v := .tuple #[.agg #[.int .i64 0, .slice none 0 0, .slice none 0 0, .slice none 0 0, .slice none 0 0, .slice none 0 0], .bool false]) (by simp [results, Tryz.results50, go_sem, d0, d1, d2, d3, d4, d5]) rfl ?_
                          exact ⟨(fun _ => rfl), (fun t ht => by rw [HNO.out] at ht; cases ht), HF.out⟩
                        | false =>
                          have hnb : ¬ (la < 0 ∧ A = 0) ∧ ¬ (lb < 0 ∧ C = 0) := by
                            have := HBB.out
                            rw [Bool.or_eq_false_iff, Bool.and_eq_false_iff, Bool.and_eq_false_iff] at this
                            simp only [decide_eq_false_iff_not] at this
                            exact ⟨fun h => this.1.elim (fun k => k h.1) (fun k => k h.2), fun h => this.2.elim (fun k => k h.1) (fun k => k h.2)⟩
                          have hca := HCA.out.2 hnb.1
                          have hcb := HCB.out.2 hnb.2
                          have HMK : Hid (madeTo n (jsOf L) (k + 1) = some (putJ n (jsOf L) t jq)) := by
                            show _ = _
                            rw [madeTo, HMT.out]
                            simp only
                            rw [HJQ.out, if_pos]
                            rw [HJS.out]
                            exact ⟨hca, hcb⟩
                          have HPE : Hid (putJ n (jsOf L) t jq = ⟨t.lv, t.left.set X (A : Int), t.right.set X (C : Int), (t.par.set A (X : Int)).set C (X : Int), t.hgt.set X hh, t.siz.set X (IntKind.i64.wrap (gi t.siz A + gi t.siz C))⟩) := by
                            show _ = _
                            unfold putJ
                            rw [HJS.out, HRKJ.out, HX.out]
                            simp only
                            rw [HNA.out hca, HNB2.out hcb]
                          clear hnb hca hcb HBB qa qb HCA HCB
                          obtain ⟨tlv, tll, trl, tpl, thl, tsl⟩ := madeTo_len k t HMT.out
                          rw [HNM.out] at tll trl tpl thl tsl
                          have hMp : 0 < M := by omega
                          obtain ⟨b1, k1, e1, _⟩ := HTR3.out.form (i := 0) (by omega) (by show 0 < t.left.length; omega)
                          obtain ⟨b2, k2, e2, _⟩ := HTR3.out.form (i := 1) (by omega) (by show 0 < t.right.length; omega)
                          obtain ⟨b3, k3, e3, _⟩ := HTR3.out.form (i := 2) (by omega) (by show 0 < t.par.length; omega)
                          obtain ⟨b4, k4, e4, _⟩ := HTR3.out.form (i := 3) (by omega) (by show 0 < t.hgt.length; omega)
                          obtain ⟨b5, k5, e5, _⟩ := HTR3.out.form (i := 4) (by omega) (by show 0 < t.siz.length; omega)
                          have E1 : Hid (V2.at 0 = .slice (some ⟨b1, 0, none⟩) M k1) := by show _ = _; rw [e1]; show Value.slice _ t.left.length _ = _; rw [tll]
                          have E2 : Hid (V2.at 1 = .slice (some ⟨b2, 0, none⟩) M k2) := by show _ = _; rw [e2]; show Value.slice _ t.right.length _ = _; rw [trl]
                          have E3 : Hid (V2.at 2 = .slice (some ⟨b3, 0, none⟩) M k3) := by show _ = _; rw [e3]; show Value.slice _ t.par.length _ = _; rw [tpl]
                          have E4 : Hid (V2.at 3 = .slice (some ⟨b4, 0, none⟩) M k4) := by show _ = _; rw [e4]; show Value.slice _ t.hgt.length _ = _; rw [thl]
                          have E5 : Hid (V2.at 4 = .slice (some ⟨b5, 0, none⟩) M k5) := by show _ = _; rw [e5]; show Value.slice _ t.siz.length _ = _; rw [tsl]
                          have o1 : (V2.at 0).ownBlock = some b1 := by rw [e1]; rfl
                          have o2 : (V2.at 1).ownBlock = some b2 := by rw [e2]; rfl
                          have o3 : (V2.at 2).ownBlock = some b3 := by rw [e3]; rfl
                          have o4 : (V2.at 3).ownBlock = some b4 := by rw [e4]; rfl
                          have o5 : (V2.at 4).ownBlock = some b5 := by rw [e5]; rfl
                          have d12 : ¬ b2 = b1 := fun e => HTR3.out.ne 1 0 (by omega) (by omega) (by omega) b2 o2 (by rw [o1, e])
                          have d14 : ¬ b4 = b1 := fun e => HTR3.out.ne 3 0 (by omega) (by omega) (by omega) b4 o4 (by rw [o1, e])
                          have d15 : ¬ b5 = b1 := fun e => HTR3.out.ne 4 0 (by omega) (by omega) (by omega) b5 o5 (by rw [o1, e])
                          have d24 : ¬ b4 = b2 := fun e => HTR3.out.ne 3 1 (by omega) (by omega) (by omega) b4 o4 (by rw [o2, e])
                          have d25 : ¬ b5 = b2 := fun e => HTR3.out.ne 4 1 (by omega) (by omega) (by omega) b5 o5 (by rw [o2, e])
                          have d45 : ¬ b5 = b4 := fun e => HTR3.out.ne 4 3 (by omega) (by omega) (by omega) b5 o5 (by rw [o4, e])
                          have HGE : Hid (B ≤ b1 ∧ B ≤ b2 ∧ B ≤ b3 ∧ B ≤ b4 ∧ B ≤ b5) := ⟨(HTR3.out.nb 0 (by omega) b1 o1).2, (HTR3.out.nb 1 (by omega) b2 o2).2, (HTR3.out.nb 2 (by omega) b3 o3).2, (HTR3.out.nb 3 (by omega) b4 o4).2, (HTR3.out.nb 4 (by omega) b5 o5).2⟩
                          have HTL : Hid (t.left.length = M ∧ t.right.length = M ∧ t.par.length = M ∧ t.hgt.length = M ∧ t.siz.length = M) := ⟨tll, trl, tpl, thl, tsl⟩
                          clear e1 e2 e3 e4 e5 o1 o2 o3 o4 o5 tlv
                          have c1 : W2.cell? ⟨B, 1, none⟩ = some (.slice (some ⟨b1, 0, none⟩) M k1) := by have := HTR3.out.box.cell (i := 1) rfl; rw [show V2.l = _ from E1.out] at this; exact this
                          have c2 : W2.cell? ⟨B, 2, none⟩ = some (.slice (some ⟨b2, 0, none⟩) M k2) := by have := HTR3.out.box.cell (i := 2) rfl; rw [show V2.r = _ from E2.out] at this; exact this
                          have c4 : W2.cell? ⟨B, 4, none⟩ = some (.slice (some ⟨b4, 0, none⟩) M k4) := by have := HTR3.out.box.cell (i := 4) rfl; rw [show V2.h = _ from E4.out] at this; exact this
                          have c5 : W2.cell? ⟨B, 5, none⟩ = some (.slice (some ⟨b5, 0, none⟩) M k5) := by have := HTR3.out.box.cell (i := 5) rfl; rw [show V2.s = _ from E5.out] at this; exact this
                          obtain ⟨l1, f1⟩ := HTR3.out.cellAt (i := 0) (by omega) E1.out (j := X) (by show X < t.left.length; omega)
                          obtain ⟨l2, f2⟩ := HTR3.out.cellAt (i := 1) (by omega) E2.out (j := X) (by show X < t.right.length; omega)
                          obtain ⟨l4, f4⟩ := HTR3.out.cellAt (i := 3) (by omega) E4.out (j := X) (by show X < t.hgt.length; omega)
                          obtain ⟨l5, f5⟩ := HTR3.out.cellAt (i := 4) (by omega) E5.out (j := X) (by show X < t.siz.length; omega)
                          obtain ⟨s1, _⟩ := HTR3.out.cellAt (i := 4) (by omega) E5.out (j := A) (by show A < t.siz.length; omega)
                          obtain ⟨s2, _⟩ := HTR3.out.cellAt (i := 4) (by omega) E5.out (j := C) (by show C < t.siz.length; omega)
                          replace s1 : W2.cell? ⟨b5, A, none⟩ = some (.int .i64 (gi t.siz A)) := s1
                          replace s2 : W2.cell? ⟨b5, C, none⟩ = some (.int .i64 (gi t.siz C)) := s2
                          obtain ⟨z1, HZ1⟩ : ∃ z, Hid (gi t.siz A = z) := ⟨_, rfl⟩
                          obtain ⟨z2, HZ2⟩ : ∃ z, Hid (gi t.siz C = z) := ⟨_, rfl⟩
                          rw [HZ1.out] at s1 HPE
                          rw [HZ2.out] at s2 HPE
                          obtain ⟨sw, hsw⟩ : ∃ sw, IntKind.i64.wrap (z1 + z2) = sw := ⟨_, rfl⟩
                          rw [hsw] at HPE
                          obtain ⟨u1, hu1⟩ : ∃ z, gi (t.at 0) X = z := ⟨_, rfl⟩
                          obtain ⟨u2, hu2⟩ : ∃ z, gi (t.at 1) X = z := ⟨_, rfl⟩
                          obtain ⟨u4, hu4⟩ : ∃ z, gi (t.at 3) X = z := ⟨_, rfl⟩
                          obtain ⟨u5, hu5⟩ : ∃ z, gi (t.at 4) X = z := ⟨_, rfl⟩
                          rw [hu1] at l1
                          rw [hu2] at l2
                          rw [hu4] at l4
                          rw [hu5] at l5
                          have g10 : (A : Int) < (M : Int) := by omega
                          have g11 : (0 : Int) ≤ (A : Int) := by omega
                          have g12 : (C : Int) < (M : Int) := by omega
                          have g13 : (0 : Int) ≤ (C : Int) := by omega
                          have g14 : (0 : Int) ≤ (X : Int) := by omega
                          have g15 : X < M := by omega
                          clear hu1 hu2 hu4 hu5 tll trl tpl thl tsl HPW q1 q2
                          have hAX : A < X := by have h := nodeF_ltk (k := k) HOK.out (by rw [HN.out]; exact hn1) haL; rw [HN.out, HX.out, HA.out] at h; exact h
                          have hCX : C < X := by have h := nodeF_ltk (k := k) HOK.out (by rw [HN.out]; exact hn1) hbL; rw [HN.out, HX.out, HC.out] at h; exact h
                          obtain ⟨W3, HW3⟩ : ∃ W3, Hid (W2.drew = W3) := ⟨_, rfl⟩
                          have HTR4 : Hid (RTr B W3 B V2 t) := by rw [← HW3.out]; exact HTR3.out.drewN 1
                          have HN4 : Hid (Blk W3 nb 3 (natV (rowF M (nodeF L (k + 1))))) := by rw [← HW3.out]; exact HN3.out.drewN 1
                          have HMD4 : Hid (Mod (fun x => x = nb) wS W3) := by rw [← HW3.out]; exact HMD3.out.drewN 1
                          have hTRa := (HTR4.out.set (i := 0) (by omega) E1.out (j := X) (by show X < t.left.length; have := HTL.out.1; omega) (A : Int)).1
                          have hTRb := (hTRa.set (i := 1) (by omega) E2.out (j := X) (by show X < t.right.length; have := HTL.out.2.1; omega) (C : Int)).1
                          have hTRc := (hTRb.set (i := 3) (by omega) E4.out (j := X) (by show X < t.hgt.length; have := HTL.out.2.2.2.1; omega) hh).1
                          have hTRd := (hTRc.set (i := 4) (by omega) E5.out (j := X) (by show X < t.siz.length; have := HTL.out.2.2.2.2; omega) sw).1
                          have HK : Hid (∀ (W : World) (s : Nat), W = S40 W3 b1 b2 b4 b5 X A C hh sw s → s ≤ 4 → F40 W B g (p * 4 + 3) b1 b2 b4 b5 k1 k2 k4 k5 M X A C hh z1 z2) := by
                            obtain ⟨d1, d2, d3, d4, d5⟩ := HTL.out
                            obtain ⟨e1, e2, e3, e4, e5⟩ := HGE.out
                            have hb := HBQ.out
                            have m0 := HMD4.out
                            have m1 := m0.setCell ⟨b1, X, none⟩ (fun h => absurd h (by show ¬ b1 < wS.heap.size; omega)) (.int .i64 (A : Int))
                            have m2 := m1.setCell ⟨b2, X, none⟩ (fun h => absurd h (by show ¬ b2 < wS.heap.size; omega)) (.int .i64 (C : Int))
                            have m3 := m2.setCell ⟨b4, X, none⟩ (fun h => absurd h (by show ¬ b4 < wS.heap.size; omega)) (.int .i64 hh)
                            have m4 := m3.setCell ⟨b5, X, none⟩ (fun h => absurd h (by show ¬ b5 < wS.heap.size; omega)) (.int .i64 sw)
                            have qq : ∀ W, Mod (fun x => x = nb) wS W → W.cell? ⟨g, p * 4 + 3, none⟩ = some (.int .i64 hh) := fun W hm => by
                              have := ((HP.out.below (HWW.out _ hm)).c p hpLL).2.2.2
                              rw [HHH.out] at this; exact this
                            have ga : ∀ y, y ≠ X → gi (t.siz.set X sw) y = gi t.siz y := fun y hy => gi_set_ne (fun e => hy e.symm)
                            intro W s hst hs
                            have h5 : s = 0 ∨ s = 1 ∨ s = 2 ∨ s = 3 ∨ s = 4 := by omega
                            rcases h5 with rfl | rfl | rfl | rfl | rfl
                            · subst hst; exact HTR4.out.f40 E1.out E2.out E4.out E5.out ⟨d1, d2, d4, d5⟩ g15 hAM hBM (qq _ m0) HZ1.out HZ2.out
                            · subst hst; exact hTRa.f40 E1.out E2.out E4.out E5.out ⟨(List.length_set).trans d1, d2, d4, d5⟩ g15 hAM hBM (qq _ m1) HZ1.out HZ2.out
                            · subst hst; exact hTRb.f40 E1.out E2.out E4.out E5.out ⟨(List.length_set).trans d1, (List.length_set).trans d2, d4, d5⟩ g15 hAM hBM (qq _ m2) HZ1.out HZ2.out
                            · subst hst; exact hTRc.f40 E1.out E2.out E4.out E5.out ⟨(List.length_set).trans d1, (List.length_set).trans d2, (List.length_set).trans d4, d5⟩ g15 hAM hBM (qq _ m3) HZ1.out HZ2.out
                            · subst hst; exact hTRd.f40 E1.out E2.out E4.out E5.out ⟨(List.length_set).trans d1, (List.length_set).trans d2, (List.length_set).trans d4, (List.length_set).trans d5⟩ g15 hAM hBM (qq _ m4) ((ga A (by omega)).trans HZ1.out) ((ga C (by omega)).trans HZ2.out)
                          clear hTRa hTRb hTRc hTRd q3 c1 c2 c4 c5 l1 l2 l4 l5 s1 s2 f1 f2 f4 f5 HTR3 HN3 HMD3
                          go_wp2_with fail
                          refine wp_region_chain [31, 33, 35, 37] (by kernel_rfl) (by kernel_rfl) (by kernel_rfl) (by kernel_rfl) (fun q_ v_ => match q_ with | 0 => v_ = .pointer (some ⟨B, 1, none⟩) | 1 => v_ = .slice (some ⟨b1, 0, none⟩) M k1 | 2 => v_ = .int .i64 (X : Int) | 3 => v_ = .pointer (some ⟨B, 2, none⟩) | 4 => v_ = .slice (some ⟨b2, 0, none⟩) M k2 | 5 => v_ = .int .i64 (X : Int) | 6 => v_ = .pointer (some ⟨B, 4, none⟩) | 7 => v_ = .slice (some ⟨b4, 0, none⟩) M k4 | 8 => v_ = .int .i64 (X : Int) | 9 => v_ = .pointer (some ⟨B, 5, none⟩) | 10 => v_ = .slice (some ⟨b5, 0, none⟩) M k5 | 11 => v_ = .int .i64 (X : Int) | 12 => v_ = .int .i64 (A : Int) | 13 => v_ = .int .i64 (C : Int) | 14 => v_ = .slice (some ⟨g, 0, none⟩) M cap | 15 => v_ = .int .i64 (p : Int) | 16 => v_ = .pointer (some ⟨g, p * 4, none⟩) | 17 => v_ = .pointer (some ⟨g, p * 4 + 3, none⟩) | 18 => v_ = .int .i64 hh | 19 => v_ = .pointer (some ⟨B, 5, none⟩) | 20 => v_ = .slice (some ⟨b5, 0, none⟩) M k5 | 21 => v_ = .int .i64 (A : Int) | 22 => v_ = .pointer (some ⟨b5, A, none⟩) | 23 => v_ = .int .i64 z1 | 24 => v_ = .pointer (some ⟨B, 5, none⟩) | 25 => v_ = .slice (some ⟨b5, 0, none⟩) M k5 | 26 => v_ = .int .i64 (C : Int) | 27 => v_ = .pointer (some ⟨b5, C, none⟩) | 28 => v_ = .int .i64 z2 | 29 => v_ = .int .i64 sw | 30 => v_ = .pointer (some ⟨b1, X, none⟩) | 32 => v_ = .pointer (some ⟨b2, X, none⟩) | 34 => v_ = .pointer (some ⟨b4, X, none⟩) | 36 => v_ = .pointer (some ⟨b5, X, none⟩) | _ => True) (fun s_ W_ => W_ = S40 W3 b1 b2 b4 b5 X A C hh sw s_) ?start ?read ?tail ?fin
                          case start => exact HW3.out
                          case read =>
                            intro W s_ o_i o AA hin hst hs_ hev hdep ho
                            obtain ⟨c1, c2, c4, c5, q3, ⟨u1, l1⟩, ⟨u2, l2⟩, ⟨u4, l4⟩, ⟨u5, l5⟩, f1, f2, f4, f5, s1, s2⟩ := HK.out W s_ hst hs_
                            have hcs : o_i = 0 ∨ o_i = 1 ∨ o_i = 2 ∨ o_i = 3 ∨ o_i = 4 ∨ o_i = 5 ∨ o_i = 6 ∨ o_i = 7 ∨ o_i = 8 ∨ o_i = 9 ∨ o_i = 10 ∨ o_i = 11 ∨ o_i = 12 ∨ o_i = 13 ∨ o_i = 14 ∨ o_i = 15 ∨ o_i = 16 ∨ o_i = 17 ∨ o_i = 18 ∨ o_i = 19 ∨ o_i = 20 ∨ o_i = 21 ∨ o_i = 22 ∨ o_i = 23 ∨ o_i = 24 ∨ o_i = 25 ∨ o_i = 26 ∨ o_i = 27 ∨ o_i = 28 ∨ o_i = 29 ∨ o_i = 30 ∨ o_i = 31 ∨ o_i = 32 ∨ o_i = 33 ∨ o_i = 34 ∨ o_i = 35 ∨ o_i = 36 ∨ o_i = 37 := by
                              have := (List.getElem?_eq_some_iff.1 ho).1
                              have h2 : o_i < 38 := this
                              omega
                            rcases hcs with rfl | rfl | rfl | rfl | rfl | rfl | rfl | rfl | rfl | rfl | rfl | rfl | rfl | rfl | rfl | rfl | rfl | rfl | rfl | rfl | rfl | rfl | rfl | rfl | rfl | rfl | rfl | rfl | rfl | rfl | rfl | rfl | rfl | rfl | rfl | rfl | rfl | rfl
                            · cases ho
                              as_aux_lemma =>
                                have f10 : AA.eval (.tmp 10) = .pointer (some ⟨B, 0, none⟩) := hev 10 (by kernel_rfl)
                                exact ⟨wanted_free rfl, wp_valD (v := .pointer (some ⟨B, 1, none⟩)) (w' := W) (by simp only [execOp, f10]; simp [go_sem, f10, c1, c2, c4, c5, q3, l1, l2, l4, l5, f1, f2, f4, f5, s1, s2, hsw, g1, g4, g5, g6, g7, g8, g9, g10, g11, g12, g13, g14]) ⟨_, rfl, rfl, rfl⟩⟩
                            · cases ho
                              as_aux_lemma =>
                                have f194 : AA.eval (.tmp 194) = .pointer (some ⟨B, 1, none⟩) := hdep ⟨0, .data⟩ 194 (by simp) (by rfl) rfl (of_decide_eq_true (by kernel_rfl))
                                exact ⟨wanted_free rfl, wp_valD (v := .slice (some ⟨b1, 0, none⟩) M k1) (w' := W) (by simp only [execOp, f194]; simp [go_sem, f194, c1, c2, c4, c5, q3, l1, l2, l4, l5, f1, f2, f4, f5, s1, s2, hsw, g1, g4, g5, g6, g7, g8, g9, g10, g11, g12, g13, g14]) ⟨_, rfl, rfl, rfl⟩⟩
                            · cases ho
                              as_aux_lemma =>
                                have f12 : AA.eval (.tmp 12) = .int .i64 (X : Int) := hev 12 (by kernel_rfl)
                                exact ⟨wanted_free rfl, wp_valD (v := .int .i64 (X : Int)) (w' := W) (by simp only [execOp, f12]; simp [go_sem, f12, c1, c2, c4, c5, q3, l1, l2, l4, l5, f1, f2, f4, f5, s1, s2, hsw, g1, g4, g5, g6, g7, g8, g9, g10, g11, g12, g13, g14]) ⟨_, rfl, rfl, rfl⟩⟩
                            · cases ho
                              as_aux_lemma =>
                                have f10 : AA.eval (.tmp 10) = .pointer (some ⟨B, 0, none⟩) := hev 10 (by kernel_rfl)
                                exact ⟨wanted_free rfl, wp_valD (v := .pointer (some ⟨B, 2, none⟩)) (w' := W) (by simp only [execOp, f10]; simp [go_sem, f10, c1, c2, c4, c5, q3, l1, l2, l4, l5, f1, f2, f4, f5, s1, s2, hsw, g1, g4, g5, g6, g7, g8, g9, g10, g11, g12, g13, g14]) ⟨_, rfl, rfl, rfl⟩⟩
                            · cases ho
                              as_aux_lemma =>
                                have f197 : AA.eval (.tmp 197) = .pointer (some ⟨B, 2, none⟩) := hdep ⟨3, .data⟩ 197 (by simp) (by rfl) rfl (of_decide_eq_true (by kernel_rfl))
                                exact ⟨wanted_free rfl, wp_valD (v := .slice (some ⟨b2, 0, none⟩) M k2) (w' := W) (by simp only [execOp, f197]; simp [go_sem, f197, c1, c2, c4, c5, q3, l1, l2, l4, l5, f1, f2, f4, f5, s1, s2, hsw, g1, g4, g5, g6, g7, g8, g9, g10, g11, g12, g13, g14]) ⟨_, rfl, rfl, rfl⟩⟩
                            · cases ho
                              as_aux_lemma =>
                                have f12 : AA.eval (.tmp 12) = .int .i64 (X : Int) := hev 12 (by kernel_rfl)
                                exact ⟨wanted_free rfl, wp_valD (v := .int .i64 (X : Int)) (w' := W) (by simp only [execOp, f12]; simp [go_sem, f12, c1, c2, c4, c5, q3, l1, l2, l4, l5, f1, f2, f4, f5, s1, s2, hsw, g1, g4, g5, g6, g7, g8, g9, g10, g11, g12, g13, g14]) ⟨_, rfl, rfl, rfl⟩⟩
                            · cases ho
                              as_aux_lemma =>
                                have f10 : AA.eval (.tmp 10) = .pointer (some ⟨B, 0, none⟩) := hev 10 (by kernel_rfl)
                                exact ⟨wanted_free rfl, wp_valD (v := .pointer (some ⟨B, 4, none⟩)) (w' := W) (by simp only [execOp, f10]; simp [go_sem, f10, c1, c2, c4, c5, q3, l1, l2, l4, l5, f1, f2, f4, f5, s1, s2, hsw, g1, g4, g5, g6, g7, g8, g9, g10, g11, g12, g13, g14]) ⟨_, rfl, rfl, rfl⟩⟩
                            · cases ho
                              as_aux_lemma =>
                                have f200 : AA.eval (.tmp 200) = .pointer (some ⟨B, 4, none⟩) := hdep ⟨6, .data⟩ 200 (by simp) (by rfl) rfl (of_decide_eq_true (by kernel_rfl))
                                exact ⟨wanted_free rfl, wp_valD (v := .slice (some ⟨b4, 0, none⟩) M k4) (w' := W) (by simp only [execOp, f200]; simp [go_sem, f200, c1, c2, c4, c5, q3, l1, l2, l4, l5, f1, f2, f4, f5, s1, s2, hsw, g1, g4, g5, g6, g7, g8, g9, g10, g11, g12, g13, g14]) ⟨_, rfl, rfl, rfl⟩⟩
                            · cases ho
                              as_aux_lemma =>
                                have f12 : AA.eval (.tmp 12) = .int .i64 (X : Int) := hev 12 (by kernel_rfl)
                                exact ⟨wanted_free rfl, wp_valD (v := .int .i64 (X : Int)) (w' := W) (by simp only [execOp, f12]; simp [go_sem, f12, c1, c2, c4, c5, q3, l1, l2, l4, l5, f1, f2, f4, f5, s1, s2, hsw, g1, g4, g5, g6, g7, g8, g9, g10, g11, g12, g13, g14]) ⟨_, rfl, rfl, rfl⟩⟩
                            · cases ho
                              as_aux_lemma =>
                                have f10 : AA.eval (.tmp 10) = .pointer (some ⟨B, 0, none⟩) := hev 10 (by kernel_rfl)
                                exact ⟨wanted_free rfl, wp_valD (v := .pointer (some ⟨B, 5, none⟩)) (w' := W) (by simp only [execOp, f10]; simp [go_sem, f10, c1, c2, c4, c5, q3, l1, l2, l4, l5, f1, f2, f4, f5, s1, s2, hsw, g1, g4, g5, g6, g7, g8, g9, g10, g11, g12, g13, g14]) ⟨_, rfl, rfl, rfl⟩⟩
                            · cases ho
                              as_aux_lemma =>
                                have f203 : AA.eval (.tmp 203) = .pointer (some ⟨B, 5, none⟩) := hdep ⟨9, .data⟩ 203 (by simp) (by rfl) rfl (of_decide_eq_true (by kernel_rfl))
                                exact ⟨wanted_free rfl, wp_valD (v := .slice (some ⟨b5, 0, none⟩) M k5) (w' := W) (by simp only [execOp, f203]; simp [go_sem, f203, c1, c2, c4, c5, q3, l1, l2, l4, l5, f1, f2, f4, f5, s1, s2, hsw, g1, g4, g5, g6, g7, g8, g9, g10, g11, g12, g13, g14]) ⟨_, rfl, rfl, rfl⟩⟩
                            · cases ho
                              as_aux_lemma =>
                                have f12 : AA.eval (.tmp 12) = .int .i64 (X : Int) := hev 12 (by kernel_rfl)
                                exact ⟨wanted_free rfl, wp_valD (v := .int .i64 (X : Int)) (w' := W) (by simp only [execOp, f12]; simp [go_sem, f12, c1, c2, c4, c5, q3, l1, l2, l4, l5, f1, f2, f4, f5, s1, s2, hsw, g1, g4, g5, g6, g7, g8, g9, g10, g11, g12, g13, g14]) ⟨_, rfl, rfl, rfl⟩⟩
                            · cases ho
                              as_aux_lemma =>
                                have f15 : AA.eval (.tmp 15) = .int .i64 (A : Int) := hev 15 (by kernel_rfl)
                                exact ⟨wanted_free rfl, wp_valD (v := .int .i64 (A : Int)) (w' := W) (by simp only [execOp, f15]; simp [go_sem, f15, c1, c2, c4, c5, q3, l1, l2, l4, l5, f1, f2, f4, f5, s1, s2, hsw, g1, g4, g5, g6, g7, g8, g9, g10, g11, g12, g13, g14]) ⟨_, rfl, rfl, rfl⟩⟩
                            · cases ho
                              as_aux_lemma =>
                                have f16 : AA.eval (.tmp 16) = .int .i64 (C : Int) := hev 16 (by kernel_rfl)
                                exact ⟨wanted_free rfl, wp_valD (v := .int .i64 (C : Int)) (w' := W) (by simp only [execOp, f16]; simp [go_sem, f16, c1, c2, c4, c5, q3, l1, l2, l4, l5, f1, f2, f4, f5, s1, s2, hsw, g1, g4, g5, g6, g7, g8, g9, g10, g11, g12, g13, g14]) ⟨_, rfl, rfl, rfl⟩⟩
                            · cases ho
                              as_aux_lemma =>
                                have f0 : AA.eval (.tmp 0) = .slice (some ⟨g, 0, none⟩) M cap := hev 0 (by kernel_rfl)
                                exact ⟨wanted_free rfl, wp_valD (v := .slice (some ⟨g, 0, none⟩) M cap) (w' := W) (by simp only [execOp, f0]; simp [go_sem, f0, c1, c2, c4, c5, q3, l1, l2, l4, l5, f1, f2, f4, f5, s1, s2, hsw, g1, g4, g5, g6, g7, g8, g9, g10, g11, g12, g13, g14]) ⟨_, rfl, rfl, rfl⟩⟩
                            · cases ho
                              as_aux_lemma =>
                                have f13 : AA.eval (.tmp 13) = .int .i64 (p : Int) := hev 13 (by kernel_rfl)
                                exact ⟨wanted_free rfl, wp_valD (v := .int .i64 (p : Int)) (w' := W) (by simp only [execOp, f13]; simp [go_sem, f13, c1, c2, c4, c5, q3, l1, l2, l4, l5, f1, f2, f4, f5, s1, s2, hsw, g1, g4, g5, g6, g7, g8, g9, g10, g11, g12, g13, g14]) ⟨_, rfl, rfl, rfl⟩⟩
                            · cases ho
                              as_aux_lemma =>
                                have f208 : AA.eval (.tmp 208) = .slice (some ⟨g, 0, none⟩) M cap := hdep ⟨14, .data⟩ 208 (by simp) (by rfl) rfl (of_decide_eq_true (by kernel_rfl))
                                have f209 : AA.eval (.tmp 209) = .int .i64 (p : Int) := hdep ⟨15, .data⟩ 209 (by simp) (by rfl) rfl (of_decide_eq_true (by kernel_rfl))
                                exact ⟨wanted_free rfl, wp_valD (v := .pointer (some ⟨g, p * 4, none⟩)) (w' := W) (by simp only [execOp, f208, f209]; simp [go_sem, f208, f209, c1, c2, c4, c5, q3, l1, l2, l4, l5, f1, f2, f4, f5, s1, s2, hsw, g1, g4, g5, g6, g7, g8, g9, g10, g11, g12, g13, g14]) ⟨_, rfl, rfl, rfl⟩⟩
                            · cases ho
                              as_aux_lemma =>
                                have f210 : AA.eval (.tmp 210) = .pointer (some ⟨g, p * 4, none⟩) := hdep ⟨16, .data⟩ 210 (by simp) (by rfl) rfl (of_decide_eq_true (by kernel_rfl))
                                exact ⟨wanted_free rfl, wp_valD (v := .pointer (some ⟨g, p * 4 + 3, none⟩)) (w' := W) (by simp only [execOp, f210]; simp [go_sem, f210, c1, c2, c4, c5, q3, l1, l2, l4, l5, f1, f2, f4, f5, s1, s2, hsw, g1, g4, g5, g6, g7, g8, g9, g10, g11, g12, g13, g14]) ⟨_, rfl, rfl, rfl⟩⟩
                            · cases ho
                              as_aux_lemma =>
                                have f211 : AA.eval (.tmp 211) = .pointer (some ⟨g, p * 4 + 3, none⟩) := hdep ⟨17, .data⟩ 211 (by simp) (by rfl) rfl (of_decide_eq_true (by kernel_rfl))
                                exact ⟨wanted_free rfl, wp_valD (v := .int .i64 hh) (w' := W) (by simp only [execOp, f211]; simp [go_sem, f211, c1, c2, c4, c5, q3, l1, l2, l4, l5, f1, f2, f4, f5, s1, s2, hsw, g1, g4, g5, g6, g7, g8, g9, g10, g11, g12, g13, g14]) ⟨_, rfl, rfl, rfl⟩⟩
                            · cases ho
                              as_aux_lemma =>
                                have f10 : AA.eval (.tmp 10) = .pointer (some ⟨B, 0, none⟩) := hev 10 (by kernel_rfl)
                                exact ⟨wanted_free rfl, wp_valD (v := .pointer (some ⟨B, 5, none⟩)) (w' := W) (by simp only [execOp, f10]; simp [go_sem, f10, c1, c2, c4, c5, q3, l1, l2, l4, l5, f1, f2, f4, f5, s1, s2, hsw, g1, g4, g5, g6, g7, g8, g9, g10, g11, g12, g13, g14]) ⟨_, rfl, rfl, rfl⟩⟩
                            · cases ho
                              as_aux_lemma =>
                                have f213 : AA.eval (.tmp 213) = .pointer (some ⟨B, 5, none⟩) := hdep ⟨19, .data⟩ 213 (by simp) (by rfl) rfl (of_decide_eq_true (by kernel_rfl))
                                exact ⟨wanted_free rfl, wp_valD (v := .slice (some ⟨b5, 0, none⟩) M k5) (w' := W) (by simp only [execOp, f213]; simp [go_sem, f213, c1, c2, c4, c5, q3, l1, l2, l4, l5, f1, f2, f4, f5, s1, s2, hsw, g1, g4, g5, g6, g7, g8, g9, g10, g11, g12, g13, g14]) ⟨_, rfl, rfl, rfl⟩⟩
                            · cases ho
                              as_aux_lemma =>
                                have f15 : AA.eval (.tmp 15) = .int .i64 (A : Int) := hev 15 (by kernel_rfl)
                                exact ⟨wanted_free rfl, wp_valD (v := .int .i64 (A : Int)) (w' := W) (by simp only [execOp, f15]; simp [go_sem, f15, c1, c2, c4, c5, q3, l1, l2, l4, l5, f1, f2, f4, f5, s1, s2, hsw, g1, g4, g5, g6, g7, g8, g9, g10, g11, g12, g13, g14]) ⟨_, rfl, rfl, rfl⟩⟩
                            · cases ho
                              as_aux_lemma =>
                                have f214 : AA.eval (.tmp 214) = .slice (some ⟨b5, 0, none⟩) M k5 := hdep ⟨20, .data⟩ 214 (by simp) (by rfl) rfl (of_decide_eq_true (by kernel_rfl))
                                have f215 : AA.eval (.tmp 215) = .int .i64 (A : Int) := hdep ⟨21, .data⟩ 215 (by simp) (by rfl) rfl (of_decide_eq_true (by kernel_rfl))
                                exact ⟨wanted_free rfl, wp_valD (v := .pointer (some ⟨b5, A, none⟩)) (w' := W) (by simp only [execOp, f214, f215]; simp [go_sem, f214, f215, c1, c2, c4, c5, q3, l1, l2, l4, l5, f1, f2, f4, f5, s1, s2, hsw, g1, g4, g5, g6, g7, g8, g9, g10, g11, g12, g13, g14]) ⟨_, rfl, rfl, rfl⟩⟩
                            · cases ho
                              as_aux_lemma =>
                                have f216 : AA.eval (.tmp 216) = .pointer (some ⟨b5, A, none⟩) := hdep ⟨22, .data⟩ 216 (by simp) (by rfl) rfl (of_decide_eq_true (by kernel_rfl))
                                exact ⟨wanted_free rfl, wp_valD (v := .int .i64 z1) (w' := W) (by simp only [execOp, f216]; simp [go_sem, f216, c1, c2, c4, c5, q3, l1, l2, l4, l5, f1, f2, f4, f5, s1, s2, hsw, g1, g4, g5, g6, g7, g8, g9, g10, g11, g12, g13, g14]) ⟨_, rfl, rfl, rfl⟩⟩
                            · cases ho
                              as_aux_lemma =>
                                have f10 : AA.eval (.tmp 10) = .pointer (some ⟨B, 0, none⟩) := hev 10 (by kernel_rfl)
                                exact ⟨wanted_free rfl, wp_valD (v := .pointer (some ⟨B, 5, none⟩)) (w' := W) (by simp only [execOp, f10]; simp [go_sem, f10, c1, c2, c4, c5, q3, l1, l2, l4, l5, f1, f2, f4, f5, s1, s2, hsw, g1, g4, g5, g6, g7, g8, g9, g10, g11, g12, g13, g14]) ⟨_, rfl, rfl, rfl⟩⟩
                            · cases ho
                              as_aux_lemma =>
                                have f218 : AA.eval (.tmp 218) = .pointer (some ⟨B, 5, none⟩) := hdep ⟨24, .data⟩ 218 (by simp) (by rfl) rfl (of_decide_eq_true (by kernel_rfl))
                                exact ⟨wanted_free rfl, wp_valD (v := .slice (some ⟨b5, 0, none⟩) M k5) (w' := W) (by simp only [execOp, f218]; simp [go_sem, f218, c1, c2, c4, c5, q3, l1, l2, l4, l5, f1, f2, f4, f5, s1, s2, hsw, g1, g4, g5, g6, g7, g8, g9, g10, g11, g12, g13, g14]) ⟨_, rfl, rfl, rfl⟩⟩
                            · cases ho
                              as_aux_lemma =>
                                have f16 : AA.eval (.tmp 16) = .int .i64 (C : Int) := hev 16 (by kernel_rfl)
                                exact ⟨wanted_free rfl, wp_valD (v := .int .i64 (C : Int)) (w' := W) (by simp only [execOp, f16]; simp [go_sem, f16, c1, c2, c4, c5, q3, l1, l2, l4, l5, f1, f2, f4, f5, s1, s2, hsw, g1, g4, g5, g6, g7, g8, g9, g10, g11, g12, g13, g14]) ⟨_, rfl, rfl, rfl⟩⟩
                            · cases ho
                              as_aux_lemma =>
                                have f219 : AA.eval (.tmp 219) = .slice (some ⟨b5, 0, none⟩) M k5 := hdep ⟨25, .data⟩ 219 (by simp) (by rfl) rfl (of_decide_eq_true (by kernel_rfl))
                                have f220 : AA.eval (.tmp 220) = .int .i64 (C : Int) := hdep ⟨26, .data⟩ 220 (by simp) (by rfl) rfl (of_decide_eq_true (by kernel_rfl))
                                exact ⟨wanted_free rfl, wp_valD (v := .pointer (some ⟨b5, C, none⟩)) (w' := W) (by simp only [execOp, f219, f220]; simp [go_sem, f219, f220, c1, c2, c4, c5, q3, l1, l2, l4, l5, f1, f2, f4, f5, s1, s2, hsw, g1, g4, g5, g6, g7, g8, g9, g10, g11, g12, g13, g14]) ⟨_, rfl, rfl, rfl⟩⟩
                            · cases ho
                              as_aux_lemma =>
                                have f221 : AA.eval (.tmp 221) = .pointer (some ⟨b5, C, none⟩) := hdep ⟨27, .data⟩ 221 (by simp) (by rfl) rfl (of_decide_eq_true (by kernel_rfl))
                                exact ⟨wanted_free rfl, wp_valD (v := .int .i64 z2) (w' := W) (by simp only [execOp, f221]; simp [go_sem, f221, c1, c2, c4, c5, q3, l1, l2, l4, l5, f1, f2, f4, f5, s1, s2, hsw, g1, g4, g5, g6, g7, g8, g9, g10, g11, g12, g13, g14]) ⟨_, rfl, rfl, rfl⟩⟩
                            · cases ho
                              as_aux_lemma =>
                                have f217 : AA.eval (.tmp 217) = .int .i64 z1 := hdep ⟨23, .data⟩ 217 (by simp) (by rfl) rfl (of_decide_eq_true (by kernel_rfl))
                                have f222 : AA.eval (.tmp 222) = .int .i64 z2 := hdep ⟨28, .data⟩ 222 (by simp) (by rfl) rfl (of_decide_eq_true (by kernel_rfl))
                                exact ⟨wanted_free rfl, wp_valD (v := .int .i64 sw) (w' := W) (by simp only [execOp, f217, f222]; simp [go_sem, f217, f222, c1, c2, c4, c5, q3, l1, l2, l4, l5, f1, f2, f4, f5, s1, s2, hsw, g1, g4, g5, g6, g7, g8, g9, g10, g11, g12, g13, g14]) ⟨_, rfl, rfl, rfl⟩⟩
                            · cases ho
                              as_aux_lemma =>
                                have f195 : AA.eval (.tmp 195) = .slice (some ⟨b1, 0, none⟩) M k1 := hdep ⟨1, .data⟩ 195 (by simp) (by rfl) rfl (of_decide_eq_true (by kernel_rfl))
                                have f196 : AA.eval (.tmp 196) = .int .i64 (X : Int) := hdep ⟨2, .data⟩ 196 (by simp) (by rfl) rfl (of_decide_eq_true (by kernel_rfl))
                                exact ⟨wanted_free rfl, wp_valD (v := .pointer (some ⟨b1, X, none⟩)) (w' := W) (by simp only [execOp, f195, f196]; simp [go_sem, f195, f196, c1, c2, c4, c5, q3, l1, l2, l4, l5, f1, f2, f4, f5, s1, s2, hsw, g1, g4, g5, g6, g7, g8, g9, g10, g11, g12, g13, g14]) ⟨_, rfl, rfl, rfl⟩⟩
                            · exact absurd (by simp) hin
                            · cases ho
                              as_aux_lemma =>
                                have f198 : AA.eval (.tmp 198) = .slice (some ⟨b2, 0, none⟩) M k2 := hdep ⟨4, .data⟩ 198 (by simp) (by rfl) rfl (of_decide_eq_true (by kernel_rfl))
                                have f199 : AA.eval (.tmp 199) = .int .i64 (X : Int) := hdep ⟨5, .data⟩ 199 (by simp) (by rfl) rfl (of_decide_eq_true (by kernel_rfl))
                                exact ⟨wanted_free rfl, wp_valD (v := .pointer (some ⟨b2, X, none⟩)) (w' := W) (by simp only [execOp, f198, f199]; simp [go_sem, f198, f199, c1, c2, c4, c5, q3, l1, l2, l4, l5, f1, f2, f4, f5, s1, s2, hsw, g1, g4, g5, g6, g7, g8, g9, g10, g11, g12, g13, g14]) ⟨_, rfl, rfl, rfl⟩⟩
                            · exact absurd (by simp) hin
                            · cases ho
                              as_aux_lemma =>
                                have f201 : AA.eval (.tmp 201) = .slice (some ⟨b4, 0, none⟩) M k4 := hdep ⟨7, .data⟩ 201 (by simp) (by rfl) rfl (of_decide_eq_true (by kernel_rfl))
                                have f202 : AA.eval (.tmp 202) = .int .i64 (X : Int) := hdep ⟨8, .data⟩ 202 (by simp) (by rfl) rfl (of_decide_eq_true (by kernel_rfl))
                                exact ⟨wanted_free rfl, wp_valD (v := .pointer (some ⟨b4, X, none⟩)) (w' := W) (by simp only [execOp, f201, f202]; simp [go_sem, f201, f202, c1, c2, c4, c5, q3, l1, l2, l4, l5, f1, f2, f4, f5, s1, s2, hsw, g1, g4, g5, g6, g7, g8, g9, g10, g11, g12, g13, g14]) ⟨_, rfl, rfl, rfl⟩⟩
                            · exact absurd (by simp) hin
                            · cases ho
                              as_aux_lemma =>
                                have f204 : AA.eval (.tmp 204) = .slice (some ⟨b5, 0, none⟩) M k5 := hdep ⟨10, .data⟩ 204 (by simp) (by rfl) rfl (of_decide_eq_true (by kernel_rfl))
                                have f205 : AA.eval (.tmp 205) = .int .i64 (X : Int) := hdep ⟨11, .data⟩ 205 (by simp) (by rfl) rfl (of_decide_eq_true (by kernel_rfl))
                                exact ⟨wanted_free rfl, wp_valD (v := .pointer (some ⟨b5, X, none⟩)) (w' := W) (by simp only [execOp, f204, f205]; simp [go_sem, f204, f205, c1, c2, c4, c5, q3, l1, l2, l4, l5, f1, f2, f4, f5, s1, s2, hsw, g1, g4, g5, g6, g7, g8, g9, g10, g11, g12, g13, g14]) ⟨_, rfl, rfl, rfl⟩⟩
                            · exact absurd (by simp) hin
                          case tail =>
                            intro W q o AA hq hst ho hev hdep
                            obtain ⟨c1, c2, c4, c5, q3, ⟨u1, l1⟩, ⟨u2, l2⟩, ⟨u4, l4⟩, ⟨u5, l5⟩, f1, f2, f4, f5, s1, s2⟩ := HK.out W q hst (Nat.le_of_lt hq)
                            have hqs : q = 0 ∨ q = 1 ∨ q = 2 ∨ q = 3 := by
                              have h2 : q < 4 := hq
                              omega
                            rcases hqs with rfl | rfl | rfl | rfl
                            · cases ho
                              as_aux_lemma =>
                                have f224 : AA.eval (.tmp 224) = .pointer (some ⟨b1, X, none⟩) := hdep ⟨30, .data⟩ 224 (by simp) (by rfl) rfl (of_decide_eq_true (by kernel_rfl))
                                have f206 : AA.eval (.tmp 206) = .int .i64 (A : Int) := hdep ⟨12, .data⟩ 206 (by simp) (by rfl) rfl (of_decide_eq_true (by kernel_rfl))
                                exact ⟨wanted_free rfl, wp_skipD (w' := (S40 W3 b1 b2 b4 b5 X A C hh sw 1)) (by simp only [execOp, f224, f206]; simp [go_sem, S40, f224, f206, c1, c2, c4, c5, q3, l1, l2, l4, l5, f1, f2, f4, f5, s1, s2, hsw, g1, g4, g5, g6, g7, g8, g9, g10, g11, g12, g13, g14]; rw [show W = S40 W3 b1 b2 b4 b5 X A C hh sw 0 from hst]; rfl) ⟨undef, rfl, rfl⟩⟩
                            · cases ho
                              as_aux_lemma =>
                                have f225 : AA.eval (.tmp 225) = .pointer (some ⟨b2, X, none⟩) := hdep ⟨32, .data⟩ 225 (by simp) (by rfl) rfl (of_decide_eq_true (by kernel_rfl))
                                have f207 : AA.eval (.tmp 207) = .int .i64 (C : Int) := hdep ⟨13, .data⟩ 207 (by simp) (by rfl) rfl (of_decide_eq_true (by kernel_rfl))
                                exact ⟨wanted_free rfl, wp_skipD (w' := (S40 W3 b1 b2 b4 b5 X A C hh sw 2)) (by simp only [execOp, f225, f207]; simp [go_sem, S40, f225, f207, c1, c2, c4, c5, q3, l1, l2, l4, l5, f1, f2, f4, f5, s1, s2, hsw, g1, g4, g5, g6, g7, g8, g9, g10, g11, g12, g13, g14]; rw [show W = S40 W3 b1 b2 b4 b5 X A C hh sw 1 from hst]; rfl) ⟨undef, rfl, rfl⟩⟩
                            · cases ho
                              as_aux_lemma =>
                                have f226 : AA.eval (.tmp 226) = .pointer (some ⟨b4, X, none⟩) := hdep ⟨34, .data⟩ 226 (by simp) (by rfl) rfl (of_decide_eq_true (by kernel_rfl))
                                have f212 : AA.eval (.tmp 212) = .int .i64 hh := hdep ⟨18, .data⟩ 212 (by simp) (by rfl) rfl (of_decide_eq_true (by kernel_rfl))
                                exact ⟨wanted_free rfl, wp_skipD (w' := (S40 W3 b1 b2 b4 b5 X A C hh sw 3)) (by simp only [execOp, f226, f212]; simp [go_sem, S40, f226, f212, c1, c2, c4, c5, q3, l1, l2, l4, l5, f1, f2, f4, f5, s1, s2, hsw, g1, g4, g5, g6, g7, g8, g9, g10, g11, g12, g13, g14]; rw [show W = S40 W3 b1 b2 b4 b5 X A C hh sw 2 from hst]; rfl) ⟨undef, rfl, rfl⟩⟩
                            · cases ho
                              as_aux_lemma =>
                                have f227 : AA.eval (.tmp 227) = .pointer (some ⟨b5, X, none⟩) := hdep ⟨36, .data⟩ 227 (by simp) (by rfl) rfl (of_decide_eq_true (by kernel_rfl))
                                have f223 : AA.eval (.tmp 223) = .int .i64 sw := hdep ⟨29, .data⟩ 223 (by simp) (by rfl) rfl (of_decide_eq_true (by kernel_rfl))
                                exact ⟨wanted_free rfl, wp_skipD (w' := (S40 W3 b1 b2 b4 b5 X A C hh sw 4)) (by simp only [execOp, f227, f223]; simp [go_sem, S40, f227, f223, c1, c2, c4, c5, q3, l1, l2, l4, l5, f1, f2, f4, f5, s1, s2, hsw, g1, g4, g5, g6, g7, g8, g9, g10, g11, g12, g13, g14]; rw [show W = S40 W3 b1 b2 b4 b5 X A C hh sw 3 from hst]; rfl) ⟨undef, rfl, rfl⟩⟩
                          intro xs W hst hF
                          obtain rfl := show W = ((((W3.setCell ⟨b1, X, none⟩ (.int .i64 (A : Int))).setCell ⟨b2, X, none⟩ (.int .i64 (C : Int))).setCell ⟨b4, X, none⟩ (.int .i64 hh)).setCell ⟨b5, X, none⟩ (.int .i64 sw)) from hst
                          clear hst hF
                          simp only [putAll, Nat.zero_add, Nat.reduceAdd]
                          generalize xs 0 = z0
                          generalize xs 1 = z1
                          generalize xs 2 = z2
                          generalize xs 3 = z3
                          generalize xs 4 = z4
                          generalize xs 5 = z5
                          generalize xs 6 = z6
                          generalize xs 7 = z7
                          generalize xs 8 = z8
                          generalize xs 9 = z9
                          generalize xs 10 = z10
                          generalize xs 11 = z11
                          generalize xs 12 = z12
                          generalize xs 13 = z13
                          generalize xs 14 = z14
                          generalize xs 15 = z15
                          generalize xs 16 = z16
                          generalize xs 17 = z17
                          generalize xs 18 = z18
                          generalize xs 19 = z19
                          generalize xs 20 = z20
                          generalize xs 21 = z21
                          generalize xs 22 = z22
                          generalize xs 23 = z23
                          generalize xs 24 = z24
                          generalize xs 25 = z25
                          generalize xs 26 = z26
                          generalize xs 27 = z27
                          generalize xs 28 = z28
                          generalize xs 29 = z29
                          generalize xs 30 = z30
                          generalize xs 31 = z31
                          generalize xs 32 = z32
                          generalize xs 33 = z33
                          generalize xs 34 = z34
                          generalize xs 35 = z35
                          generalize xs 36 = z36
                          generalize xs 37 = z37
                          clear xs
                          have hTR5a := (HTR4.out.set (i := 0) (by omega) E1.out (j := X) (by show X < t.left.length; have := HTL.out.1; omega) (A : Int)).1
                          have hTR5b := (hTR5a.set (i := 1) (by omega) E2.out (j := X) (by show X < t.right.length; have := HTL.out.2.1; omega) (C : Int)).1
                          have hTR5c := (hTR5b.set (i := 3) (by omega) E4.out (j := X) (by show X < t.hgt.length; have := HTL.out.2.2.2.1; omega) hh).1
                          have hTR5 := (hTR5c.set (i := 4) (by omega) E5.out (j := X) (by show X < t.siz.length; have := HTL.out.2.2.2.2; omega) sw).1
                          clear hTR5a hTR5b hTR5c
                          have HTR5 := Lib.hid hTR5
                          have HN5 : Hid (Blk ((((W3.setCell ⟨b1, X, none⟩ (.int .i64 (A : Int))).setCell ⟨b2, X, none⟩ (.int .i64 (C : Int))).setCell ⟨b4, X, none⟩ (.int .i64 hh)).setCell ⟨b5, X, none⟩ (.int .i64 sw)) nb 3 (natV (rowF M (nodeF L (k + 1))))) := by
                            obtain ⟨h1, h2, h3, h4, h5⟩ := HGE.out
                            exact (((HN4.out.other ⟨b1, X, none⟩ _ (by show nb ≠ b1; omega)).other ⟨b2, X, none⟩ _ (by show nb ≠ b2; omega)).other ⟨b4, X, none⟩ _ (by show nb ≠ b4; omega)).other ⟨b5, X, none⟩ _ (by show nb ≠ b5; omega)
                          have HMD5 : Hid (Mod (fun x => x = nb) wS ((((W3.setCell ⟨b1, X, none⟩ (.int .i64 (A : Int))).setCell ⟨b2, X, none⟩ (.int .i64 (C : Int))).setCell ⟨b4, X, none⟩ (.int .i64 hh)).setCell ⟨b5, X, none⟩ (.int .i64 sw))) := by
                            obtain ⟨h1, h2, h3, h4, h5⟩ := HGE.out
                            have hb := HBQ.out
                            exact (((HMD4.out.setCell ⟨b1, X, none⟩ (fun h => absurd h (by show ¬ b1 < wS.heap.size; omega)) _).setCell ⟨b2, X, none⟩ (fun h => absurd h (by show ¬ b2 < wS.heap.size; omega)) _).setCell ⟨b4, X, none⟩ (fun h => absurd h (by show ¬ b4 < wS.heap.size; omega)) _).setCell ⟨b5, X, none⟩ (fun h => absurd h (by show ¬ b5 < wS.heap.size; omega)) _
                          clear hTR5 HTR4 HN4 HMD4
                          go_upto_region 41 with fail
                          clear d12 d14 d15 d24 d25 d45 HK hAX hCX
                          generalize (((W3.setCell ⟨b1, X, none⟩ (.int .i64 (A : Int))).setCell ⟨b2, X, none⟩ (.int .i64 (C : Int))).setCell ⟨b4, X, none⟩ (.int .i64 hh)).setCell ⟨b5, X, none⟩ (.int .i64 sw) = W5 at *
                          have c3 : W5.cell? ⟨B, 3, none⟩ = some (.slice (some ⟨b3, 0, none⟩) M k3) := by have := HTR5.out.box.cell (i := 3) rfl; rw [show V2.p = _ from E3.out] at this; exact this
                          obtain ⟨p1, f1⟩ := HTR5.out.cellAt (i := 2) (by omega) E3.out (j := A) (by show A < t.par.length; have := HTL.out.2.2.1; omega)
                          replace p1 : ∃ v, W5.cell? ⟨b3, A, none⟩ = some (.int .i64 v) := ⟨_, p1⟩
                          obtain ⟨v1, p1⟩ := p1
                          have hTR6 := (HTR5.out.set (i := 2) (by omega) E3.out (j := A) (by show A < t.par.length; have := HTL.out.2.2.1; omega) (X : Int)).1
                          have HTR6 := Lib.hid hTR6
                          have HN6 : Hid (Blk (W5.setCell ⟨b3, A, none⟩ (.int .i64 (X : Int))) nb 3 (natV (rowF M (nodeF L (k + 1))))) := by
                            obtain ⟨h1, h2, h3, h4, h5⟩ := HGE.out
                            exact HN5.out.other ⟨b3, A, none⟩ _ (by show nb ≠ b3; omega)
                          have HMD6 : Hid (Mod (fun x => x = nb) wS (W5.setCell ⟨b3, A, none⟩ (.int .i64 (X : Int)))) := by
                            obtain ⟨h1, h2, h3, h4, h5⟩ := HGE.out
                            have hb := HBQ.out
                            exact HMD5.out.setCell ⟨b3, A, none⟩ (fun h => absurd h (by show ¬ b3 < wS.heap.size; omega)) _
                          clear hTR6 HTR5 HN5 HMD5
                          go_upto_region 42 with fail
                          clear c3 p1 f1
                          generalize W5.setCell ⟨b3, A, none⟩ (.int .i64 (X : Int)) = W6 at *
                          have c3 : W6.cell? ⟨B, 3, none⟩ = some (.slice (some ⟨b3, 0, none⟩) M k3) := by have := HTR6.out.box.cell (i := 3) rfl; rw [show V2.p = _ from E3.out] at this; exact this
                          obtain ⟨p1, f1⟩ := HTR6.out.cellAt (i := 2) (by omega) E3.out (j := C) (by show C < (t.par.set A (X : Int)).length; rw [List.length_set]; have := HTL.out.2.2.1; omega)
                          replace p1 : ∃ v, W6.cell? ⟨b3, C, none⟩ = some (.int .i64 v) := ⟨_, p1⟩
                          obtain ⟨v2, p1⟩ := p1
                          have hTR7 := (HTR6.out.set (i := 2) (by omega) E3.out (j := C) (by show C < (t.par.set A (X : Int)).length; rw [List.length_set]; have := HTL.out.2.2.1; omega) (X : Int)).1
                          have HTR7 : Hid (RTr B (W6.setCell ⟨b3, C, none⟩ (.int .i64 (X : Int))) B V2 (putJ n (jsOf L) t jq)) := by
                            show RTr _ _ _ _ _
                            rw [HPE.out]
                            exact hTR7
                          have HN7 : Hid (Blk (W6.setCell ⟨b3, C, none⟩ (.int .i64 (X : Int))) nb 3 (natV (rowF M (nodeF L (k + 1))))) := by
                            obtain ⟨h1, h2, h3, h4, h5⟩ := HGE.out
                            exact HN6.out.other ⟨b3, C, none⟩ _ (by show nb ≠ b3; omega)
                          have HMD7 : Hid (Mod (fun x => x = nb) wS (W6.setCell ⟨b3, C, none⟩ (.int .i64 (X : Int)))) := by
                            obtain ⟨h1, h2, h3, h4, h5⟩ := HGE.out
                            have hb := HBQ.out
                            exact HMD6.out.setCell ⟨b3, C, none⟩ (fun h => absurd h (by show ¬ b3 < wS.heap.size; omega)) _
                          clear hTR7 HTR6 HN6 HMD6
                          have HXS : Hid (n + (k + 1) = X + 1) := by have := HX.out; show _ = _; omega
                          go_wp2_with fail
                          go_roundw
                          case rel => exact ⟨k + 1, putJ n (jsOf L) t jq, V2, by rw [HXS.out]; omega, by rw [HXS.out]; go_num, HMK.out, HTR7.out, HN7.out, HMD7.out⟩
                          case measure => simp [intOf]; omega
                · as_aux_lemma =>
                    obtain rfl : X = M := by omega
                    have hkl : k = (jsOf L).length := by have := HNM.out; have := HX.out; omega
                    have HOM : Hid (madeO L = some t) := by show _ = _; rw [HPO.out, ← hkl]; exact HMT.out
                    obtain ⟨tlv0, tll, trl, tpl, thl, tsl⟩ := madeTo_len k t HMT.out
                    rw [HNM.out] at tll trl tpl thl tsl
                    obtain ⟨A, hV, hta, hge⟩ := HTR.out.tree (by rw [tlv0]; omega) (fun i hi => by
                      have h1 : i = 0 ∨ i = 1 ∨ i = 2 ∨ i = 3 ∨ i = 4 := by omega
                      rcases h1 with rfl | rfl | rfl | rfl | rfl
                      · show t.left.length ≤ _; omega
                      · show t.right.length ≤ _; omega
                      · show t.par.length ≤ _; omega
                      · show t.hgt.length ≤ _; omega
                      · show t.siz.length ≤ _; omega)
                    subst hV
                    have HTA := Lib.hid hta
                    have HGE : Hid (∀ x, A.has t x → rb < x) := fun x hx => by have := hge x hx; omega
                    have HRX := Lib.hid (HRR.out.mod HMD.out (by omega))
                    have HBF := Lib.hid (HWW.out _ HMD.out)
                    have c0 := HTR.out.box.cell (i := 0) rfl
                    have c1 := HTR.out.box.cell (i := 1) rfl
                    have c2 := HTR.out.box.cell (i := 2) rfl
                    have c3 := HTR.out.box.cell (i := 3) rfl
                    have c4 := HTR.out.box.cell (i := 4) rfl
                    have c5 := HTR.out.box.cell (i := 5) rfl
                    clear hkl tlv0 tll trl tpl thl tsl hta hge HTR HNR HMD hkM
                    go_wp2_with (with_reducible refine wpList_storeBlk rb 27 [.int .i64 0, .slice none 0 0, .slice none 0 0, .slice none 0 0, .slice none 0 0, .slice none 0 0] [.int .i64 t.lv, .slice A.l.o t.left.length A.l.c, .slice A.r.o t.right.length A.r.c, .slice A.p.o t.par.length A.p.c, .slice A.h.o t.hgt.length A.h.c, .slice A.s.o t.siz.length A.s.c] rfl rfl HRX.out rfl (by kernel_rfl) (by simp [Value.oneCell']) ?_)
                    intro wz hbz hmz
                    have HF : Hid (Below w.heap.size w wz) := bel_mod HBF.out hmz (fun x e => by rw [e]; exact Nat.le_of_eq HRB.out)
                    have HTZ := Lib.hid (HTA.out.mod hmz (fun k hk e => by have := HGE.out k hk; have h2 : k = rb := e; omega))
                    clear c0 c1 c2 c3 c4 c5
                    have d0 := hbz.cell (i := 0) rfl
                    have d1 := hbz.cell (i := 1) rfl
                    have d2 := hbz.cell (i := 2) rfl
                    have d3 := hbz.cell (i := 3) rfl
                    have d4 := hbz.cell (i := 4) rfl
                    have d5 := hbz.cell (i := 5) rfl
                    clear hbz hmz
                    go_wp2_with fail
                    refine bodyPost_ret (v := .tuple #[.agg #[.int .i64 t.lv, .slice A.l.o t.left.length A.l.c, .slice A.r.o t.right.length A.r.c, .slice A.p.o t.par.length A.p.c, .slice A.h.o t.hgt.length A.h.c, .slice A.s.o t.siz.length A.s.c], .bool true]) (by simp [results, Tryz.results50, go_sem, d0, d1, d2, d3, d4, d5]) rfl ?_
                    exact ⟨fun h => (by rw [HOM.out] at h; cases h), fun t' ht => (by rw [HOM.out] at ht; injection ht with ht; subst ht; exact ⟨A, rfl, HTZ.out, fun x hx => by have := HGE.out x hx; rw [HRB.out]; omega⟩), HF.out⟩

end Go.Proofs.YthacjealoomioaaGreatDoor
