/- DmG, DmH, DmJ. -/
import Derived.Test.YthacjealoomioaaGreatDoorZGc2
import Derived.Test.YthacjealoomioaaGreatDoorZGd
import Derived.Test.YthacjealoomioaaGreatDoorZGg
import Derived.RegionTactic
import Derived.BigRegion
import Derived.BigQuiet
import Derived.Deep.CutBlock
import Derived.Deep.DeepCutAuto
/- The library's stable sort: swapRange and rotate. -/
namespace Go.Proofs.YthacjealoomioaaGreatDoor
set_option linter.unusedVariables false
set_option linter.unusedSimpArgs false
open Go.RowKit

/-- The row holds the first N values of g; only its block was written. -/
structure SfPost (w : World) (ob N : Nat) (g : Nat → Nat) (e : Ending) (W : World) : Prop where
  val : e = .returned (.tuple #[])
  blk : Blk W ob 3 (natV (rowF N g))
  mod : Mod (fun x => x = ob) w W

theorem row_cell {W : World} {ob N : Nat} {f : Nat → Nat} (h : Blk W ob 3 (natV (rowF N f))) {x : Nat} (hx : x < N) : W.cell? ⟨ob, x, none⟩ = some (.int .i64 ((f x : Nat) : Int)) := by
  have := natV_get (l := rowF N f) (i := x) (by rw [rowF_len]; exact hx)
  rw [rowF_getD hx] at this
  exact h.cell this
theorem row_ex {W : World} {ob N : Nat} {f : Nat → Nat} (h : Blk W ob 3 (natV (rowF N f))) (p q : Nat) : Blk ((W.setCell ⟨ob, p, none⟩ (.int .i64 ((f q : Nat) : Int))).setCell ⟨ob, q, none⟩ (.int .i64 ((f p : Nat) : Int))) ob 3 (natV (rowF N fun x => f (ex p q x))) := by
  have h2 := (h.set p (.int .i64 ((f q : Nat) : Int))).set q (.int .i64 ((f p : Nat) : Int))
  rw [natV_set, natV_set, rowF_set, rowF_set] at h2
  have e : rowF N (putF (putF f p (f q)) q (f p)) = rowF N fun x => f (ex p q x) := rowF_congr fun x _ => by
    unfold putF ex
    by_cases c1 : x = q
    · rw [if_pos c1]
      by_cases c2 : x = p
      · rw [if_pos c2, ← c1, ← c2]
      · rw [if_neg c2, if_pos c1]
    · rw [if_neg c1]
      by_cases c2 : x = p
      · rw [if_pos c2, if_pos c2]
      · rw [if_neg c2, if_neg c2, if_neg c1]
  rw [e] at h2
  exact h2
theorem mod_set2 {F : Nat → Prop} {a w : World} (h : Mod F a w) (b p q : Nat) (hb : F b) (u v : Value) : Mod F a ((w.setCell ⟨b, p, none⟩ u).setCell ⟨b, q, none⟩ v) := (h.setCell ⟨b, p, none⟩ (fun _ => hb) u).setCell ⟨b, q, none⟩ (fun _ => hb) v

set_option maxHeartbeats 4000000 in
set_option maxRecDepth 100000 in
theorem swapR_ok (w : World) (ob N cap : Nat) (f : Nat → Nat) (hb : Blk w ob 3 (natV (rowF N f))) (a b n : Nat) (h1 : a + n ≤ b) (h2 : b + n ≤ N) (hN : N ≤ 1000000) (fv : Value) :
    Calls Tryz.prog 163 #[.slice (some ⟨ob, 0, none⟩) N cap, .int .i64 (a : Int), .int .i64 (b : Int), .int .i64 (n : Int), fv] w (SfPost w ob N (fun x => f (sw a b n x))) := by
  have HB := Lib.hid hb
  clear hb
  go_enter Tryz.func163, Tryz.ntmps163
  go_wp2_with fail
  go_loopw [10] (fun s wr => ∃ i : Nat, i ≤ n ∧ s = .int .i64 (i : Int) ∧ Blk wr ob 3 (natV (rowF N fun x => f (sw a b i x))) ∧ Mod (fun x => x = ob) w wr) (fun s _ => n - (intOf s).toNat)
  case atStart =>
    refine ⟨0, Nat.zero_le _, rfl, ?_, Mod.refl _ _⟩
    rw [show (rowF N fun x => f (sw a b 0 x)) = rowF N f from rowF_congr fun x _ => by rw [sw_zero]]
    exact HB.out
  case round =>
    obtain ⟨i, hi, rfl, hb, hm⟩ := hrel
    have HBR := Lib.hid hb
    have HM := Lib.hid hm
    clear hb hm HB
    by_cases hin : i < n
    · obtain ⟨p, HP⟩ : ∃ p, Hid (a + i = p) := ⟨_, rfl⟩
      obtain ⟨q, HQ⟩ : ∃ q, Hid (b + i = q) := ⟨_, rfl⟩
      have hpq : p < q := by have := HP.out; have := HQ.out; omega
      have hqN : q < N := by have := HQ.out; omega
      have c1 := row_cell HBR.out (x := p) (by omega)
      have c2 := row_cell HBR.out (x := q) hqN
      have f1 := HBR.out.free p
      have f2 := HBR.out.free q
      have HNX : Hid (Blk ((wr.setCell ⟨ob, p, none⟩ (.int .i64 ((f (sw a b i q) : Nat) : Int))).setCell ⟨ob, q, none⟩ (.int .i64 ((f (sw a b i p) : Nat) : Int))) ob 3 (natV (rowF N fun x => f (sw a b (i + 1) x)))) := by
        have := row_ex HBR.out p q
        rw [show (rowF N fun x => f (sw a b (i + 1) x)) = rowF N fun x => f (sw a b i (ex p q x)) from rowF_congr fun x _ => by rw [sw_succ (by omega), HP.out, HQ.out]]
        exact this
      have HM2 : Hid (Mod (fun x => x = ob) w ((wr.setCell ⟨ob, p, none⟩ (.int .i64 ((f (sw a b i q) : Nat) : Int))).setCell ⟨ob, q, none⟩ (.int .i64 ((f (sw a b i p) : Nat) : Int)))) := mod_set2 HM.out ob p q rfl _ _
      generalize f (sw a b i p) = u at *
      generalize f (sw a b i q) = v at *
      have s1 : IntKind.i64.wrap ((a : Int) + (i : Int)) = (p : Int) := by have := HP.out; rw [IntWalk.i64_in _ (by omega)]; omega
      have s2 : IntKind.i64.wrap ((b : Int) + (i : Int)) = (q : Int) := by have := HQ.out; rw [IntWalk.i64_in _ (by omega)]; omega
      have g1 : (p : Int) < (N : Int) := by omega
      have g2 : (q : Int) < (N : Int) := by omega
      have g3 : (0 : Int) ≤ (p : Int) := by omega
      have g4 : (0 : Int) ≤ (q : Int) := by omega
      have HL : Hid (q < N ∧ p < q) := ⟨hqN, hpq⟩
      clear HBR HM
      go_wp2_with fail
      have HNX2 := Lib.hid HNX.out.drew
      have HM3 := Lib.hid HM2.out.drew
      go_region
      all_goals
        go_wp2_with fail
        go_roundw
        case rel => exact ⟨i + 1, by omega, by go_num, HNX2.out, HM3.out⟩
        case measure => simp [intOf]; omega
    · obtain rfl : i = n := by omega
      go_wp2_with fail
      exact ⟨rfl, _, results_none rfl _ _ _, ⟨rfl, HBR.out, HM.out⟩⟩

set_option maxHeartbeats 4000000 in
set_option maxRecDepth 100000 in
theorem rotR_ok (w : World) (ob N cap : Nat) (f : Nat → Nat) (hb : Blk w ob 3 (natV (rowF N f))) (a m b : Nat) (h1 : a < m) (h2 : m < b) (h3 : b ≤ N) (hN : N ≤ 1000000) (fv : Value) :
    Calls Tryz.prog 147 #[.slice (some ⟨ob, 0, none⟩) N cap, .int .i64 (a : Int), .int .i64 (m : Int), .int .i64 (b : Int), fv] w (SfPost w ob N (fun x => f (ro a m b x))) := by
  have HB := Lib.hid hb
  obtain ⟨i0, HI0⟩ : ∃ i0, Hid (m - a = i0) := ⟨_, rfl⟩
  obtain ⟨j0, HJ0⟩ : ∃ j0, Hid (b - m = j0) := ⟨_, rfl⟩
  have s1 : IntKind.i64.wrap ((m : Int) - (a : Int)) = (i0 : Int) := by have := HI0.out; rw [IntWalk.i64_in _ (by omega)]; omega
  have s2 : IntKind.i64.wrap ((b : Int) - (m : Int)) = (j0 : Int) := by have := HJ0.out; rw [IntWalk.i64_in _ (by omega)]; omega
  have hi0 : 0 < i0 := by have := HI0.out; omega
  have hj0 : 0 < j0 := by have := HJ0.out; omega
  have hij : i0 + j0 ≤ 1000000 := by have := HI0.out; have := HJ0.out; omega
  have hi1 : i0 ≤ m := by have := HI0.out; omega
  have hj1 : m + j0 ≤ N := by have := HJ0.out; omega
  clear hb
  go_enter Tryz.func147, Tryz.ntmps147
  go_wp2_with fail
  clear s1 s2
  go_loopw [10, 11] (fun s t wr => ∃ (i j : Nat) (g : Nat → Nat), s = .int .i64 (i : Int) ∧ t = .int .i64 (j : Int) ∧ (0 < i ∧ 0 < j ∧ i ≤ m ∧ m + j ≤ N) ∧ Blk wr ob 3 (natV (rowF N g)) ∧ Mod (fun x => x = ob) w wr ∧ Hid (∀ x, g (ro (m - i) m (m + j) x) = f (ro a m b x))) (fun s t _ => (intOf s).toNat + (intOf t).toNat)
  case atStart =>
    refine ⟨i0, j0, f, rfl, rfl, ⟨hi0, hj0, hi1, hj1⟩, HB.out, Mod.refl _ _, fun x => ?_⟩
    rw [show m - i0 = a by have := HI0.out; omega, show m + j0 = b by have := HJ0.out; omega]
  case round =>
    obtain ⟨i, j, g, rfl, rfl, ⟨k1, k2, k3, k4⟩, hb, hm, HG⟩ := hrel
    have HBR := Lib.hid hb
    have HM := Lib.hid hm
    clear hb hm HB hi0 hj0 hi1 hj1
    obtain ⟨mi, HMI⟩ : ∃ mi, Hid (m - i = mi) := ⟨_, rfl⟩
    have s1 : IntKind.i64.wrap ((m : Int) - (i : Int)) = (mi : Int) := by have := HMI.out; rw [IntWalk.i64_in _ (by omega)]; omega
    by_cases e : i = j
    · have HC := Lib.hid (swapR_ok wr ob N cap g HBR.out mi m i (by have := HMI.out; omega) (by omega) hN fv)
      subst e
      go_wp2_with fail
      refine HC.out.mono ?_
      rintro e w2 ⟨rfl, hb2, hm2⟩
      have HF : Hid (SfPost w ob N (fun x => f (ro a m b x)) (.returned (.tuple #[])) w2) := by
        refine ⟨rfl, ?_, HM.out.trans hm2 fun _ _ h => h⟩
        rw [show (rowF N fun x => f (ro a m b x)) = rowF N fun x => g (sw mi m i x) from rowF_congr fun x _ => by rw [← HG.out x, ← HMI.out, ro_eq k3]]
        exact hb2
      clear hb2 hm2
      go_wp2_with fail
      exact ⟨rfl, _, results_none rfl _ _ _, HF.out⟩
    · have t1 : ((i : Int) == (j : Int)) = false := by simp; omega
      by_cases hgt : j < i
      · obtain ⟨i', HI'⟩ : ∃ i', Hid (i - j = i') := ⟨_, rfl⟩
        have s3 : IntKind.i64.wrap ((i : Int) - (j : Int)) = (i' : Int) := by have := HI'.out; rw [IntWalk.i64_in _ (by omega)]; omega
        have HC := Lib.hid (swapR_ok wr ob N cap g HBR.out mi m j (by have := HMI.out; omega) (by omega) hN fv)
        go_wp2_with fail
        refine HC.out.mono ?_
        rintro e2 w2 ⟨rfl, hb2, hm2⟩
        have HB2 := Lib.hid hb2
        have HM2 := Lib.hid (HM.out.trans hm2 fun _ _ h => h)
        have HG2 : Hid (∀ x, (fun x => g (sw mi m j x)) (ro (m - i') m (m + j) x) = f (ro a m b x)) := fun x => by
          rw [← HG.out x, ← HI'.out, ro_gt k3 hgt, HMI.out]
        have q1 : 0 < i' := by have := HI'.out; omega
        have q2 : i' ≤ m := by have := HI'.out; omega
        have q3 : i' < i := by have := HI'.out; omega
        clear hb2 hm2 HG
        go_wp2_with fail
        go_roundw
        case rel => exact ⟨i', j, _, rfl, rfl, ⟨q1, k2, q2, k4⟩, HB2.out, HM2.out, HG2⟩
        case measure => simp [intOf]; omega
      · have hlt : i < j := by omega
        obtain ⟨j', HJ'⟩ : ∃ j', Hid (j - i = j') := ⟨_, rfl⟩
        obtain ⟨mj, HMJ⟩ : ∃ mj, Hid (m + j = mj) := ⟨_, rfl⟩
        obtain ⟨mk, HMK⟩ : ∃ mk, Hid (mj - i = mk) := ⟨_, rfl⟩
        have s3 : IntKind.i64.wrap ((j : Int) - (i : Int)) = (j' : Int) := by have := HJ'.out; rw [IntWalk.i64_in _ (by omega)]; omega
        have s4 : IntKind.i64.wrap ((m : Int) + (j : Int)) = (mj : Int) := by have := HMJ.out; rw [IntWalk.i64_in _ (by omega)]; omega
        have s5 : IntKind.i64.wrap ((mj : Int) - (i : Int)) = (mk : Int) := by have := HMJ.out; have := HMK.out; rw [IntWalk.i64_in _ (by omega)]; omega
        have HC := Lib.hid (swapR_ok wr ob N cap g HBR.out mi mk i (by have := HMI.out; have := HMJ.out; have := HMK.out; omega) (by have := HMJ.out; have := HMK.out; omega) hN fv)
        go_wp2_with fail
        refine HC.out.mono ?_
        rintro e2 w2 ⟨rfl, hb2, hm2⟩
        have HB2 := Lib.hid hb2
        have HM2 := Lib.hid (HM.out.trans hm2 fun _ _ h => h)
        have HG2 : Hid (∀ x, (fun x => g (sw mi mk i x)) (ro (m - i) m (m + j') x) = f (ro a m b x)) := fun x => by
          rw [← HG.out x, ← HJ'.out, ro_lt k3 hlt, HMI.out, HMJ.out, HMK.out]
        have q1 : 0 < j' := by have := HJ'.out; omega
        have q2 : m + j' ≤ N := by have := HJ'.out; omega
        have q3 : j' < j := by have := HJ'.out; omega
        clear hb2 hm2 HG
        go_wp2_with fail
        go_roundw
        case rel => exact ⟨i, j', _, rfl, rfl, ⟨k1, q1, k3, q2⟩, HB2.out, HM2.out, HG2⟩
        case measure => simp [intOf]; omega

end Go.Proofs.YthacjealoomioaaGreatDoor

/- The library's stable sort: insertion. -/
namespace Go.Proofs.YthacjealoomioaaGreatDoor
set_option linter.unusedVariables false
set_option linter.unusedSimpArgs false
open Go.RowKit Go.Shelf

/-- What is asked of the function that compares: it only reads. -/
def CmpOn (w : World) (ob fk : Nat) (cb : Array Value) (P : Nat → Prop) (key : Nat → Int) : Prop :=
  ∀ W, Mod (fun x => x = ob) w W → ∀ x y : Nat, P x → P y → Calls Tryz.prog fk (#[.int .i64 (x : Int), .int .i64 (y : Int)] ++ cb) W fun e W' => e = .returned (.int .i64 (cmpI (key x) (key y))) ∧ ∃ q, W' = W.drewN q
theorem CmpOn.on {w w1 : World} {ob fk : Nat} {cb : Array Value} {P : Nat → Prop} {key : Nat → Int} (h : CmpOn w ob fk cb P key) (hm : Mod (fun x => x = ob) w w1) : CmpOn w1 ob fk cb P key := fun W hW => h W (hm.trans hW fun _ _ e => e)
theorem cmpI_neg {a b : Int} : cmpI a b < 0 ↔ a < b := by
  unfold cmpI
  split
  · omega
  · split <;> omega

/-- A segment sorted. -/
structure StPost (key : Nat → Int) (w : World) (ob N : Nat) (f : Nat → Nat) (a b : Nat) (e : Ending) (W : World) : Prop where
  out : ∃ g, SfPost w ob N g e W ∧ Mrg key a b f g

theorem Mrg.small {key : Nat → Int} {f : Nat → Nat} {a b : Nat} (h : b ≤ a + 1) : Mrg key a b f f := Mrg.refl fun i j h1 h2 h3 => by omega
theorem Mrg.trans {key : Nat → Int} {f g h : Nat → Nat} {a m b : Nat} (h1 : Mrg key a m f g) (hm : m ≤ b) (h2 : Mrg key a b g h) : Mrg key a b f h := by
  obtain ⟨⟨s, s1, s2⟩, _⟩ := h1
  obtain ⟨⟨t, t1, t2⟩, t3⟩ := h2
  exact ⟨⟨fun x => s (t x), (s1.mono (Nat.le_refl _) hm).comp t1, fun x => by rw [t2, s2]⟩, t3⟩
theorem Mrg.P {key : Nat → Int} {f g : Nat → Nat} {a b N : Nat} {P : Nat → Prop} (h : Mrg key a b f g) (hb : b ≤ N) (hP : ∀ x, x < N → P (f x)) : ∀ x, x < N → P (g x) := fun x hx => by
  obtain ⟨⟨s, s1, s2⟩, _⟩ := h
  rw [s2]
  by_cases e : a ≤ x ∧ x < b
  · exact hP _ (by have := s1.inn x e.1 e.2; omega)
  · rw [s1.out x e]; exact hP x hx
theorem bw_lt {i m x : Nat} (h : x < i) : bw i m x = x := by unfold bw; rw [if_neg (by omega), if_neg (by omega)]
theorem bw_at {i m : Nat} (h : i ≤ m) : bw i m i = m := by unfold bw; rw [if_pos ⟨rfl, h⟩]
/-- The next element has found its place. -/
theorem ins_ok {key : Nat → Int} {f g : Nat → Nat} {a i j : Nat} (hm : Mrg key a i f g) (haj : a ≤ j) (hji : j ≤ i) (hasc : ∀ p, a ≤ p → p < i → f p < f i) (hi : ∀ h, j ≤ h → h < i → key (g i) < key (g h)) (hj : j = a ∨ ¬ key (g i) < key (g (j - 1))) : Mrg key a (i + 1) f fun x => g (bw j i x) := by
  refine hm.trans (Nat.le_succ i) (bw_ok haj hji hm.srt (fun p q p1 p2 p3 p4 => ?_) (fun h h1 h2 => ?_) hi)
  · obtain rfl : q = i := by omega
    obtain ⟨⟨s, s1, s2⟩, _⟩ := hm
    rw [s2, s2, s1.out q (by omega)]
    have := s1.inn p p1 p2
    exact hasc _ this.1 this.2
  · rcases hj with e | e
    · omega
    · by_cases e2 : h = j - 1
      · rw [e2]; omega
      · have := hm.srt h (j - 1) h1 (by omega) (by omega)
        unfold kl at this; omega

set_option maxHeartbeats 8000000 in
set_option maxRecDepth 100000 in
theorem insR_ok (w : World) (ob N cap : Nat) (f : Nat → Nat) (hb : Blk w ob 3 (natV (rowF N f))) (a b : Nat) (h1 : a ≤ b) (h2 : b ≤ N) (hN : N ≤ 1000000) (fk : Nat) (cb : Array Value) (eg : ∀ args w, (callFunc fk args).run Tryz.prog w = .ok (.enter fk args) w) (P : Nat → Prop) (key : Nat → Int) (hcmp : CmpOn w ob fk cb P key) (hP : ∀ x, x < N → P (f x))
    (hasc : ∀ p q, a ≤ p → p < q → q < b → f p < f q) :
    Calls Tryz.prog 123 #[.slice (some ⟨ob, 0, none⟩) N cap, .int .i64 (a : Int), .int .i64 (b : Int), .func (.func fk) #[] cb] w (StPost key w ob N f a b) := by
  have HB := Lib.hid hb
  have HC := Lib.hid hcmp
  have HP := Lib.hid hP
  have HA := Lib.hid hasc
  clear hb hcmp hP hasc
  have s0 : IntKind.i64.wrap ((a : Int) + 1) = ((a + 1 : Nat) : Int) := by rw [IntWalk.i64_in _ (by omega)]; omega
  go_enter Tryz.func123, Tryz.ntmps123
  go_wp2_with fail
  clear s0
  go_loopw [8] (fun s wr => ∃ (i : Nat) (g : Nat → Nat), s = .int .i64 (i : Int) ∧ (a + 1 ≤ i ∧ i ≤ b + 1) ∧ Blk wr ob 3 (natV (rowF N g)) ∧ Mod (fun x => x = ob) w wr ∧ Hid (Mrg key a (min i b) f g)) (fun s _ => b + 1 - (intOf s).toNat)
  case atStart =>
    refine ⟨a + 1, f, by first | rfl | go_num, ⟨Nat.le_refl _, by omega⟩, HB.out, Mod.refl _ _, Mrg.small (by omega)⟩
  case round =>
    obtain ⟨i, g, rfl, ⟨i1, i2⟩, hb, hm, HG⟩ := hrel
    have HBR := Lib.hid hb
    have HM := Lib.hid hm
    clear hb hm HB
    by_cases hib : i < b
    · have HG1 : Hid (Mrg key a i f g) := by have := HG.out; rw [Nat.min_eq_left (by omega)] at this; exact this
      have HPG := Lib.hid (HG1.out.P (by omega) HP.out)
      clear HG
      go_wp2_with fail
      go_loopw [9] (fun s wz => ∃ j : Nat, s = .int .i64 (j : Int) ∧ (a ≤ j ∧ j ≤ i) ∧ Blk wz ob 3 (natV (rowF N fun x => g (bw j i x))) ∧ Mod (fun x => x = ob) w wz ∧ Hid (∀ h, j ≤ h → h < i → key (g i) < key (g h))) (fun s _ => (intOf s).toNat)
      case atStart =>
        refine ⟨i, rfl, ⟨by omega, Nat.le_refl _⟩, ?_, HM.out, fun h k1 k2 => by omega⟩
        rw [show (rowF N fun x => g (bw i i x)) = rowF N g from rowF_congr fun x _ => by rw [bw_start]]
        exact HBR.out
      case round =>
        obtain ⟨j, rfl, ⟨j1, j2⟩, hb, hm, HJ⟩ := hrel
        clear HBR HM
        have HB := Lib.hid hb
        have HM := Lib.hid hm
        clear hb hm
        have HFIN : Hid ((j = a ∨ ¬ key (g i) < key (g (j - 1))) → Mrg key a (min (i + 1) b) f fun x => g (bw j i x)) := fun hh => by
          rw [Nat.min_eq_left (by omega)]
          exact ins_ok HG1.out j1 j2 (fun p p1 p2 => HA.out p i p1 p2 hib) HJ.out hh
        by_cases hja : j = a
        · have HD := Lib.hid (HFIN.out (.inl hja))
          have t1 : ¬ a < j := by omega
          have t2 : decide ((a : Int) < (j : Int)) = false := decide_eq_false (by omega)
          have t3 : decide (a < j) = false := decide_eq_false t1
          go_wp2_with fail
          go_quiet (fail)
          go_wp2_with fail
          go_roundw
          case rel => exact ⟨i + 1, _, by go_num, ⟨by omega, by omega⟩, HB.out.drewN nq, HM.out.drewN nq, HD⟩
          case measure => simp [intOf]; omega
        · obtain ⟨k, HK⟩ : ∃ k, Hid (k + 1 = j) := ⟨j - 1, by show _ = _; omega⟩
          have hkj : k < j := by have := HK.out; omega
          have hak : a < j := by omega
          have hak2 : a ≤ k := by have := HK.out; omega
          have hki : k ≤ i := by omega
          have c1 := row_cell HB.out (x := j) (by omega)
          have c2 := row_cell HB.out (x := k) (by omega)
          have f1 := HB.out.free j
          have f2 := HB.out.free k
          rw [bw_at j2] at c1
          rw [bw_lt hkj] at c2
          have hc := fun n => HC.out _ (HM.out.drewN n) (g i) (g k) (HPG.out i (by omega)) (HPG.out k (by omega))
          have HNX : Hid (Blk ((wr.setCell ⟨ob, j, none⟩ (.int .i64 ((g k : Nat) : Int))).setCell ⟨ob, k, none⟩ (.int .i64 ((g i : Nat) : Int))) ob 3 (natV (rowF N fun x => g (bw k i x)))) := by
            have := row_ex HB.out j k
            rw [bw_at j2, bw_lt hkj] at this
            rw [show (rowF N fun x => g (bw k i x)) = rowF N fun x => g (bw j i (ex j k x)) from rowF_congr fun x _ => by rw [bw_succ (by have := HK.out; omega), HK.out]]
            exact this
          have HM2 : Hid (Mod (fun x => x = ob) w ((wr.setCell ⟨ob, j, none⟩ (.int .i64 ((g k : Nat) : Int))).setCell ⟨ob, k, none⟩ (.int .i64 ((g i : Nat) : Int)))) := mod_set2 HM.out ob j k rfl _ _
          have s1 : IntKind.i64.wrap ((j : Int) - 1) = (k : Int) := by have := HK.out; rw [IntWalk.i64_in _ (by omega)]; omega
          have g0 : (0 : Int) ≤ (k : Int) := by omega
          have g1 : (j : Int) < (N : Int) := by omega
          have g2 : (k : Int) < (N : Int) := by omega
          have g5 : (0 : Int) ≤ (j : Int) := by omega
          have t2 : decide ((a : Int) < (j : Int)) = true := decide_eq_true (by omega)
          have t3 : decide (a < j) = true := decide_eq_true hak
          by_cases hlt : key (g i) < key (g k)
          · have HJ2 : Hid (∀ h, k ≤ h → h < i → key (g i) < key (g h)) := fun h k1 k2 => by
              by_cases e : h = k
              · rw [e]; exact hlt
              · exact HJ.out h (by have := HK.out; omega) k2
            have tl : decide (cmpI (key (g i)) (key (g k)) < 0) = true := decide_eq_true (cmpI_neg.2 hlt)
            clear hlt HFIN HJ
            generalize cmpI (key (g i)) (key (g k)) = c at *
            obtain ⟨u, hu⟩ : ∃ u, g i = u := ⟨_, rfl⟩
            obtain ⟨v, hv⟩ : ∃ v, g k = v := ⟨_, rfl⟩
            rw [hu] at c1 hc HNX HM2
            rw [hv] at c2 hc HNX HM2
            clear hu hv
            go_wp2_with fail
            go_quiet (first | (go_at_fn fk; refine Calls.quiet_of (hc _)))
            have HNX2 : Hid (Blk (((wr.drewN nq).setCell ⟨ob, j, none⟩ (.int .i64 (v : Int))).setCell ⟨ob, k, none⟩ (.int .i64 (u : Int))) ob 3 (natV (rowF N fun x => g (bw k i x)))) := HNX.out
            have HM3 : Hid (Mod (fun x => x = ob) w (((wr.drewN nq).setCell ⟨ob, j, none⟩ (.int .i64 (v : Int))).setCell ⟨ob, k, none⟩ (.int .i64 (u : Int)))) := ⟨HM2.out.os, HM2.out.tape, HM2.out.output, HM2.out.size, HM2.out.block⟩
            replace c1 : (wr.drewN nq).cell? ⟨ob, j, none⟩ = some (.int .i64 (u : Int)) := c1
            replace c2 : (wr.drewN nq).cell? ⟨ob, k, none⟩ = some (.int .i64 (v : Int)) := c2
            replace f1 : (wr.drewN nq).frozen? ⟨ob, j, none⟩ = false := f1
            replace f2 : (wr.drewN nq).frozen? ⟨ob, k, none⟩ = false := f2
            clear hc HB HM HNX HM2
            generalize wr.drewN nq = w8 at *
            go_wp2_with fail
            have HNX4 := Lib.hid HNX2.out.drew
            have HM4 := Lib.hid HM3.out.drew
            go_region
            all_goals
              go_wp2_with fail
              go_roundw
              case rel => exact ⟨k, by first | rfl | (have := HK.out; congr 1; omega), ⟨hak2, hki⟩, HNX4.out, HM4.out, HJ2⟩
              case measure => simp [intOf]; omega
          · have HD := Lib.hid (HFIN.out (.inr (by rw [show j - 1 = k by have := HK.out; omega]; exact hlt)))
            have tl : decide (cmpI (key (g i)) (key (g k)) < 0) = false := decide_eq_false (fun h => hlt (cmpI_neg.1 h))
            clear hlt HFIN HJ HNX HM2
            generalize cmpI (key (g i)) (key (g k)) = c at *
            obtain ⟨u, hu⟩ : ∃ u, g i = u := ⟨_, rfl⟩
            obtain ⟨v, hv⟩ : ∃ v, g k = v := ⟨_, rfl⟩
            rw [hu] at c1 hc
            rw [hv] at c2 hc
            clear hu hv
            go_wp2_with fail
            go_quiet (first | (go_at_fn fk; refine Calls.quiet_of (hc _)))
            go_wp2_with fail
            go_roundw
            case rel => exact ⟨i + 1, _, by go_num, ⟨by omega, by omega⟩, HB.out.drewN nq, HM.out.drewN nq, HD⟩
            case measure => simp [intOf]; omega
    · have HG1 : Hid (Mrg key a b f g) := by have := HG.out; rw [Nat.min_eq_right (by omega)] at this; exact this
      go_wp2_with fail
      exact ⟨rfl, _, results_none rfl _ _ _, ⟨⟨g, ⟨rfl, HBR.out, HM.out⟩, HG1.out⟩⟩⟩

end Go.Proofs.YthacjealoomioaaGreatDoor

/- The library's stable sort: symMerge. -/
namespace Go.Proofs.YthacjealoomioaaGreatDoor
set_option linter.unusedVariables false
set_option linter.unusedSimpArgs false
open Go.RowKit Go.Shelf

theorem Srt.le {key : Nat → Int} {f : Nat → Nat} {a b i j : Nat} (h : Srt key f a b) (h1 : a ≤ i) (h2 : i ≤ j) (h3 : j < b) : key (f i) ≤ key (f j) := by
  by_cases e : i = j
  · rw [e]; exact Int.le_refl _
  · have := h i j h1 (by omega) h3; unfold kl at this; omega

set_option maxHeartbeats 8000000 in
set_option maxRecDepth 100000 in
theorem symA_ok (w : World) (ob N cap : Nat) (f : Nat → Nat) (hb : Blk w ob 3 (natV (rowF N f))) (a b : Nat) (h1 : a + 1 < b) (h2 : b ≤ N) (hN : N ≤ 1000000) (fk : Nat) (cb : Array Value) (eg : ∀ args w, (callFunc fk args).run Tryz.prog w = .ok (.enter fk args) w) (P : Nat → Prop) (key : Nat → Int) (hcmp : CmpOn w ob fk cb P key) (hP : ∀ x, x < N → P (f x))
    (hs : Srt key f (a + 1) b) (hx : Crs f a (a + 1) b) :
    Calls Tryz.prog 124 #[.slice (some ⟨ob, 0, none⟩) N cap, .int .i64 (a : Int), .int .i64 ((a + 1 : Nat) : Int), .int .i64 (b : Int), .func (.func fk) #[] cb] w (StPost key w ob N f a b) := by
  have HB := Lib.hid hb
  have HC := Lib.hid hcmp
  have HP := Lib.hid hP
  have HS := Lib.hid hs
  have HX := Lib.hid hx
  clear hb hcmp hP hs hx
  obtain ⟨m, HMM⟩ : ∃ m, Hid (a + 1 = m) := ⟨_, rfl⟩
  have HMA : a < m := by have := HMM.out; omega
  rw [HMM.out] at h1 HS HX ⊢
  have s0 : IntKind.i64.wrap ((m : Int) - (a : Int)) = 1 := by have := HMM.out; rw [IntWalk.i64_in _ (by omega)]; omega
  go_enter Tryz.func124, Tryz.ntmps124
  go_wp2_with fail
  clear s0
  go_loopw [10, 11] (fun s t wr => ∃ i j : Nat, s = .int .i64 (i : Int) ∧ t = .int .i64 (j : Int) ∧ (m ≤ i ∧ i ≤ j ∧ j ≤ b) ∧ Blk wr ob 3 (natV (rowF N f)) ∧ Mod (fun x => x = ob) w wr ∧ Hid ((∀ h, m ≤ h → h < i → key (f h) < key (f a)) ∧ (∀ h, j ≤ h → h < b → key (f a) ≤ key (f h)))) (fun s t _ => (intOf t).toNat - (intOf s).toNat)
  case atStart => exact ⟨m, b, rfl, rfl, ⟨Nat.le_refl _, by omega, Nat.le_refl _⟩, HB.out, Mod.refl _ _, fun h k1 k2 => by omega, fun h k1 k2 => by omega⟩
  case round =>
    obtain ⟨i, j, rfl, rfl, ⟨i1, i2, i3⟩, hb, hm, HI⟩ := hrel
    clear HB
    have HB := Lib.hid hb
    have HM := Lib.hid hm
    clear hb hm
    by_cases hij : i < j
    · obtain ⟨S, HSS⟩ : ∃ S, Hid (i + j = S) := ⟨_, rfl⟩
      obtain ⟨h, HH⟩ : ∃ h, Hid (S / 2 = h) := ⟨_, rfl⟩
      have hih : i ≤ h := by have := HSS.out; have := HH.out; omega
      have hhj : h < j := by have := HSS.out; have := HH.out; omega
      have v1 : IntKind.i64.wrap ((i : Int) + (j : Int)) = (S : Int) := by have := HSS.out; rw [IntWalk.i64_in _ (by omega)]; omega
      have v2 : IntKind.u64.wrap (S : Int) = (S : Int) := IntWalk.u64_in _ (by have := HSS.out; omega)
      have v3 : (S : Int) / 2 = (h : Int) := by have := HH.out; omega
      have v4 : IntKind.u64.wrap (h : Int) = (h : Int) := IntWalk.u64_in _ (by omega)
      have v5 : IntKind.i64.wrap (h : Int) = (h : Int) := IntWalk.i64_in _ (by omega)
      have v6 : IntKind.i64.wrap ((h : Int) + 1) = ((h + 1 : Nat) : Int) := by rw [IntWalk.i64_in _ (by omega)]; omega
      have c1 := row_cell HB.out (x := h) (by omega)
      have c2 := row_cell HB.out (x := a) (by omega)
      have hc := fun n => HC.out _ (HM.out.drewN n) (f h) (f a) (HP.out h (by omega)) (HP.out a (by omega))
      have g0 : (0 : Int) ≤ (h : Int) := by omega
      have g1 : (h : Int) < (N : Int) := by omega
      have g2 : (0 : Int) ≤ (a : Int) := by omega
      have g3 : (a : Int) < (N : Int) := by omega
      by_cases hlt : key (f h) < key (f a)
      · have HI2 : Hid ((∀ q, m ≤ q → q < h + 1 → key (f q) < key (f a)) ∧ (∀ q, j ≤ q → q < b → key (f a) ≤ key (f q))) := by
          refine ⟨fun q k1 k2 => ?_, fun q k1 k2 => ?_⟩
          · exact Int.lt_of_le_of_lt (HS.out.le k1 (by omega : q ≤ h) (by omega)) hlt
          · exact HI.out.2 q k1 k2
        have tl : decide (cmpI (key (f h)) (key (f a)) < 0) = true := decide_eq_true (cmpI_neg.2 hlt)
        clear hlt HI v1 v2 v3 v4
        generalize cmpI (key (f h)) (key (f a)) = c at hc tl
        obtain ⟨u, hu⟩ : ∃ u, f h = u := ⟨_, rfl⟩
        obtain ⟨v, hv⟩ : ∃ v, f a = v := ⟨_, rfl⟩
        rw [hu] at c1 hc
        rw [hv] at c2 hc
        clear hu hv
        have v1 : IntKind.i64.wrap ((i : Int) + (j : Int)) = (S : Int) := by have := HSS.out; rw [IntWalk.i64_in _ (by omega)]; omega
        have v2 : IntKind.u64.wrap (S : Int) = (S : Int) := IntWalk.u64_in _ (by have := HSS.out; omega)
        have v3 : (S : Int) / 2 = (h : Int) := by have := HH.out; omega
        have v4 : IntKind.u64.wrap (h : Int) = (h : Int) := IntWalk.u64_in _ (by omega)
        go_wp2_with fail
        go_quiet (first | (go_at_fn fk; refine Calls.quiet_of (hc _)))
        go_wp2_with fail
        go_roundw
        case rel => exact ⟨h + 1, j, by first | rfl | go_num, by first | rfl | go_num, ⟨by omega, by omega, by omega⟩, HB.out.drewN nq, HM.out.drewN nq, HI2⟩
        case measure => simp [intOf]; omega
      · have HI2 : Hid ((∀ q, m ≤ q → q < i → key (f q) < key (f a)) ∧ (∀ q, h ≤ q → q < b → key (f a) ≤ key (f q))) := by
          refine ⟨fun q k1 k2 => ?_, fun q k1 k2 => ?_⟩
          · exact HI.out.1 q k1 k2
          · exact Int.le_trans (by omega : key (f a) ≤ key (f h)) (HS.out.le (by omega) k1 k2)
        have tl : decide (cmpI (key (f h)) (key (f a)) < 0) = false := decide_eq_false (fun h => hlt (cmpI_neg.1 h))
        clear hlt HI
        generalize cmpI (key (f h)) (key (f a)) = c at hc tl
        obtain ⟨u, hu⟩ : ∃ u, f h = u := ⟨_, rfl⟩
        obtain ⟨v, hv⟩ : ∃ v, f a = v := ⟨_, rfl⟩
        rw [hu] at c1 hc
        rw [hv] at c2 hc
        clear hu hv
        go_wp2_with fail
        go_quiet (first | (go_at_fn fk; refine Calls.quiet_of (hc _)))
        go_wp2_with fail
        go_roundw
        case rel => exact ⟨i, h, by first | rfl | go_num, by first | rfl | go_num, ⟨by omega, by omega, by omega⟩, HB.out.drewN nq, HM.out.drewN nq, HI2⟩
        case measure => simp [intOf]; omega
    · obtain rfl : i = j := by omega
      have HFIN : Hid (Mrg key a b f fun x => f (fw a i x)) := fw_ok (by have := HMM.out; omega) i3 (by rw [HMM.out]; exact HS.out) (by rw [HMM.out]; exact HX.out) (fun h k1 k2 => HI.out.1 h (by have := HMM.out; omega) k2) HI.out.2
      clear HI
      have s1 : IntKind.i64.wrap ((i : Int) - 1) = ((i - 1 : Nat) : Int) := by rw [IntWalk.i64_in _ (by omega)]; omega
      obtain ⟨e, HE⟩ : ∃ e, Hid (i - 1 = e) := ⟨_, rfl⟩
      rw [HE.out] at s1
      have hae : a ≤ e := by have := HE.out; omega
      have heN : e + 1 ≤ N := by have := HE.out; omega
      go_wp2_with fail
      go_loopw [13] (fun s wz => ∃ k : Nat, s = .int .i64 (k : Int) ∧ (a ≤ k ∧ k ≤ e) ∧ Blk wz ob 3 (natV (rowF N fun x => f (fw a (k + 1) x))) ∧ Mod (fun x => x = ob) w wz) (fun s _ => e - (intOf s).toNat)
      case atStart =>
        refine ⟨a, rfl, ⟨Nat.le_refl _, hae⟩, ?_, HM.out⟩
        rw [show (rowF N fun x => f (fw a (a + 1) x)) = rowF N f from rowF_congr fun x _ => by rw [fw_start]]
        exact HB.out
      case round =>
        clear HB HM
        obtain ⟨k, rfl, ⟨k1, k2⟩, hb, hm⟩ := hrel
        have HBR := Lib.hid hb
        have HMR := Lib.hid hm
        clear hb hm
        by_cases hk : k < e
        · obtain ⟨q, HQ⟩ : ∃ q, Hid (k + 1 = q) := ⟨_, rfl⟩
          have hqk : k < q ∧ q ≤ e := by have := HQ.out; omega
          have c1 := row_cell HBR.out (x := k) (by omega)
          have c2 := row_cell HBR.out (x := q) (by have := HQ.out; omega)
          have f1 := HBR.out.free k
          have f2 := HBR.out.free q
          have HNX : Hid (Blk ((wr.setCell ⟨ob, k, none⟩ (.int .i64 ((f (fw a (k + 1) q) : Nat) : Int))).setCell ⟨ob, q, none⟩ (.int .i64 ((f (fw a (k + 1) k) : Nat) : Int))) ob 3 (natV (rowF N fun x => f (fw a (q + 1) x)))) := by
            have := row_ex HBR.out k q
            rw [show (rowF N fun x => f (fw a (q + 1) x)) = rowF N fun x => f (fw a (k + 1) (ex k q x)) from rowF_congr fun x _ => by rw [← HQ.out, fw_succ k1]]
            exact this
          have HM2 : Hid (Mod (fun x => x = ob) w ((wr.setCell ⟨ob, k, none⟩ (.int .i64 ((f (fw a (k + 1) q) : Nat) : Int))).setCell ⟨ob, q, none⟩ (.int .i64 ((f (fw a (k + 1) k) : Nat) : Int)))) := mod_set2 HMR.out ob k q rfl _ _
          generalize f (fw a (k + 1) k) = u at c1 HNX HM2
          generalize f (fw a (k + 1) q) = v at c2 HNX HM2
          have s1 : IntKind.i64.wrap ((k : Int) + 1) = (q : Int) := by have := HQ.out; rw [IntWalk.i64_in _ (by omega)]; omega
          have g1 : (k : Int) < (N : Int) := by omega
          have g2 : (q : Int) < (N : Int) := by omega
          have g3 : (0 : Int) ≤ (k : Int) := by omega
          have g4 : (0 : Int) ≤ (q : Int) := by omega
          have t1 : decide (k < e) = true := decide_eq_true hk
          clear HBR HMR
          go_wp2_with fail
          have HNX2 := Lib.hid HNX.out.drew
          have HM3 := Lib.hid HM2.out.drew
          go_region
          all_goals
            go_wp2_with fail
            go_roundw
            case rel => exact ⟨q, by first | rfl | (have := HQ.out; congr 1; omega) | (have := HQ.out; go_num), ⟨by omega, hqk.2⟩, HNX2.out, HM3.out⟩
            case measure => simp [intOf]; omega
        · obtain rfl : k = e := by omega
          have HF : Hid (StPost key w ob N f a b (.returned (.tuple #[])) wr) := by
            refine ⟨⟨_, ⟨rfl, HBR.out, HMR.out⟩, ?_⟩⟩
            rw [show k + 1 = i by have := HE.out; omega]
            exact HFIN.out
          go_wp2_with fail
          exact ⟨rfl, _, results_none rfl _ _ _, HF.out⟩

set_option maxHeartbeats 8000000 in
set_option maxRecDepth 100000 in
theorem symB_ok (w : World) (ob N cap : Nat) (f : Nat → Nat) (hb : Blk w ob 3 (natV (rowF N f))) (a m : Nat) (h1 : a + 1 < m) (h2 : m + 1 ≤ N) (hN : N ≤ 1000000) (fk : Nat) (cb : Array Value) (eg : ∀ args w, (callFunc fk args).run Tryz.prog w = .ok (.enter fk args) w) (P : Nat → Prop) (key : Nat → Int) (hcmp : CmpOn w ob fk cb P key) (hP : ∀ x, x < N → P (f x))
    (hs : Srt key f a m) (hx : Crs f a m (m + 1)) :
    Calls Tryz.prog 124 #[.slice (some ⟨ob, 0, none⟩) N cap, .int .i64 (a : Int), .int .i64 (m : Int), .int .i64 ((m + 1 : Nat) : Int), .func (.func fk) #[] cb] w (StPost key w ob N f a (m + 1)) := by
  have HB := Lib.hid hb
  have HC := Lib.hid hcmp
  have HP := Lib.hid hP
  have HS := Lib.hid hs
  have HX := Lib.hid hx
  clear hb hcmp hP hs hx
  have s0 : IntKind.i64.wrap ((m : Int) - (a : Int)) = ((m - a : Nat) : Int) := by rw [IntWalk.i64_in _ (by omega)]; omega
  have s00 : (((m - a : Nat) : Int) == 1) = false := by simp; omega
  obtain ⟨b, HBB⟩ : ∃ b, Hid (m + 1 = b) := ⟨_, rfl⟩
  have s2 : IntKind.i64.wrap ((b : Int) - (m : Int)) = 1 := by have := HBB.out; rw [IntWalk.i64_in _ (by omega)]; omega
  generalize m - a = md at s0 s00
  rw [HBB.out] at h2 HX ⊢
  have hmb : m < b := by have := HBB.out; omega
  go_enter Tryz.func124, Tryz.ntmps124
  go_wp2_with fail
  clear s0 s00 s2
  go_loopw [14, 15] (fun s t wr => ∃ i j : Nat, s = .int .i64 (i : Int) ∧ t = .int .i64 (j : Int) ∧ (a ≤ i ∧ i ≤ j ∧ j ≤ m) ∧ Blk wr ob 3 (natV (rowF N f)) ∧ Mod (fun x => x = ob) w wr ∧ Hid ((∀ h, a ≤ h → h < i → key (f h) ≤ key (f m)) ∧ (∀ h, j ≤ h → h < m → key (f m) < key (f h)))) (fun s t _ => (intOf t).toNat - (intOf s).toNat)
  case atStart => exact ⟨a, m, rfl, rfl, ⟨Nat.le_refl _, by omega, Nat.le_refl _⟩, HB.out, Mod.refl _ _, fun h k1 k2 => by omega, fun h k1 k2 => by omega⟩
  case round =>
    obtain ⟨i, j, rfl, rfl, ⟨i1, i2, i3⟩, hb, hm, HI⟩ := hrel
    clear HB
    have HB := Lib.hid hb
    have HM := Lib.hid hm
    clear hb hm
    by_cases hij : i < j
    · obtain ⟨S, HSS⟩ : ∃ S, Hid (i + j = S) := ⟨_, rfl⟩
      obtain ⟨h, HH⟩ : ∃ h, Hid (S / 2 = h) := ⟨_, rfl⟩
      have hih : i ≤ h := by have := HSS.out; have := HH.out; omega
      have hhj : h < j := by have := HSS.out; have := HH.out; omega
      have v1 : IntKind.i64.wrap ((i : Int) + (j : Int)) = (S : Int) := by have := HSS.out; rw [IntWalk.i64_in _ (by omega)]; omega
      have v2 : IntKind.u64.wrap (S : Int) = (S : Int) := IntWalk.u64_in _ (by have := HSS.out; omega)
      have v3 : (S : Int) / 2 = (h : Int) := by have := HH.out; omega
      have v4 : IntKind.u64.wrap (h : Int) = (h : Int) := IntWalk.u64_in _ (by omega)
      have v5 : IntKind.i64.wrap (h : Int) = (h : Int) := IntWalk.i64_in _ (by omega)
      have v6 : IntKind.i64.wrap ((h : Int) + 1) = ((h + 1 : Nat) : Int) := by rw [IntWalk.i64_in _ (by omega)]; omega
      have c1 := row_cell HB.out (x := h) (by omega)
      have c2 := row_cell HB.out (x := m) (by omega)
      have hc := fun n => HC.out _ (HM.out.drewN n) (f m) (f h) (HP.out m (by omega)) (HP.out h (by omega))
      have g0 : (0 : Int) ≤ (h : Int) := by omega
      have g1 : (h : Int) < (N : Int) := by omega
      have g2 : (0 : Int) ≤ (m : Int) := by omega
      have g3 : (m : Int) < (N : Int) := by omega
      by_cases hlt : key (f m) < key (f h)
      · have HI2 : Hid ((∀ q, a ≤ q → q < i → key (f q) ≤ key (f m)) ∧ (∀ q, h ≤ q → q < m → key (f m) < key (f q))) := by
          refine ⟨fun q k1 k2 => ?_, fun q k1 k2 => ?_⟩
          · exact HI.out.1 q k1 k2
          · exact Int.lt_of_lt_of_le hlt (HS.out.le (by omega) k1 k2)
        have tl : decide (cmpI (key (f m)) (key (f h)) < 0) = true := decide_eq_true (cmpI_neg.2 hlt)
        clear hlt HI v1 v2 v3 v4
        generalize cmpI (key (f m)) (key (f h)) = c at hc tl
        obtain ⟨u, hu⟩ : ∃ u, f h = u := ⟨_, rfl⟩
        obtain ⟨v, hv⟩ : ∃ v, f m = v := ⟨_, rfl⟩
        rw [hu] at c1 hc
        rw [hv] at c2 hc
        clear hu hv
        have v1 : IntKind.i64.wrap ((i : Int) + (j : Int)) = (S : Int) := by have := HSS.out; rw [IntWalk.i64_in _ (by omega)]; omega
        have v2 : IntKind.u64.wrap (S : Int) = (S : Int) := IntWalk.u64_in _ (by have := HSS.out; omega)
        have v3 : (S : Int) / 2 = (h : Int) := by have := HH.out; omega
        have v4 : IntKind.u64.wrap (h : Int) = (h : Int) := IntWalk.u64_in _ (by omega)
        go_wp2_with fail
        go_quiet (first | (go_at_fn fk; refine Calls.quiet_of (hc _)))
        go_wp2_with fail
        go_roundw
        case rel => exact ⟨i, h, by first | rfl | go_num, by first | rfl | go_num, ⟨by omega, by omega, by omega⟩, HB.out.drewN nq, HM.out.drewN nq, HI2⟩
        case measure => simp [intOf]; omega
      · have HI2 : Hid ((∀ q, a ≤ q → q < h + 1 → key (f q) ≤ key (f m)) ∧ (∀ q, j ≤ q → q < m → key (f m) < key (f q))) := by
          refine ⟨fun q k1 k2 => ?_, fun q k1 k2 => ?_⟩
          · exact Int.le_trans (HS.out.le k1 (by omega : q ≤ h) (by omega)) (by omega : key (f h) ≤ key (f m))
          · exact HI.out.2 q k1 k2
        have tl : decide (cmpI (key (f m)) (key (f h)) < 0) = false := decide_eq_false (fun h => hlt (cmpI_neg.1 h))
        clear hlt HI
        generalize cmpI (key (f m)) (key (f h)) = c at hc tl
        obtain ⟨u, hu⟩ : ∃ u, f h = u := ⟨_, rfl⟩
        obtain ⟨v, hv⟩ : ∃ v, f m = v := ⟨_, rfl⟩
        rw [hu] at c1 hc
        rw [hv] at c2 hc
        clear hu hv
        go_wp2_with fail
        go_quiet (first | (go_at_fn fk; refine Calls.quiet_of (hc _)))
        go_wp2_with fail
        go_roundw
        case rel => exact ⟨h + 1, j, by first | rfl | go_num, by first | rfl | go_num, ⟨by omega, by omega, by omega⟩, HB.out.drewN nq, HM.out.drewN nq, HI2⟩
        case measure => simp [intOf]; omega
    · obtain rfl : i = j := by omega
      have HFIN : Hid (Mrg key a b f fun x => f (bw i m x)) := by rw [← HBB.out]; exact bw_ok i1 i3 HS.out (by rw [HBB.out]; exact HX.out) HI.out.1 HI.out.2
      clear HI
      go_wp2_with fail
      go_loopw [17] (fun s wz => ∃ k : Nat, s = .int .i64 (k : Int) ∧ (i ≤ k ∧ k ≤ m) ∧ Blk wz ob 3 (natV (rowF N fun x => f (bw k m x))) ∧ Mod (fun x => x = ob) w wz) (fun s _ => (intOf s).toNat)
      case atStart =>
        refine ⟨m, rfl, ⟨i3, Nat.le_refl _⟩, ?_, HM.out⟩
        rw [show (rowF N fun x => f (bw m m x)) = rowF N f from rowF_congr fun x _ => by rw [bw_start]]
        exact HB.out
      case round =>
        clear HB HM
        obtain ⟨k, rfl, ⟨k1, k2⟩, hb, hm⟩ := hrel
        have HBR := Lib.hid hb
        have HMR := Lib.hid hm
        clear hb hm
        by_cases hk : i < k
        · obtain ⟨q, HQ⟩ : ∃ q, Hid (q + 1 = k) := ⟨_, (show k - 1 + 1 = k by omega)⟩
          have hqk : q < k ∧ i ≤ q := by have := HQ.out; omega
          have c1 := row_cell HBR.out (x := k) (by omega)
          have c2 := row_cell HBR.out (x := q) (by have := HQ.out; omega)
          have f1 := HBR.out.free k
          have f2 := HBR.out.free q
          have HNX : Hid (Blk ((wr.setCell ⟨ob, k, none⟩ (.int .i64 ((f (bw k m q) : Nat) : Int))).setCell ⟨ob, q, none⟩ (.int .i64 ((f (bw k m k) : Nat) : Int))) ob 3 (natV (rowF N fun x => f (bw q m x)))) := by
            have := row_ex HBR.out k q
            rw [show (rowF N fun x => f (bw q m x)) = rowF N fun x => f (bw k m (ex k q x)) from rowF_congr fun x _ => by rw [bw_succ (by have := HQ.out; omega), HQ.out]]
            exact this
          have HM2 : Hid (Mod (fun x => x = ob) w ((wr.setCell ⟨ob, k, none⟩ (.int .i64 ((f (bw k m q) : Nat) : Int))).setCell ⟨ob, q, none⟩ (.int .i64 ((f (bw k m k) : Nat) : Int)))) := mod_set2 HMR.out ob k q rfl _ _
          generalize f (bw k m k) = u at c1 HNX HM2
          generalize f (bw k m q) = v at c2 HNX HM2
          have s1 : IntKind.i64.wrap ((k : Int) - 1) = (q : Int) := by have := HQ.out; rw [IntWalk.i64_in _ (by omega)]; omega
          have g1 : (k : Int) < (N : Int) := by omega
          have g2 : (q : Int) < (N : Int) := by omega
          have g3 : (0 : Int) ≤ (k : Int) := by omega
          have g4 : (0 : Int) ≤ (q : Int) := by omega
          have t1 : decide (i < k) = true := decide_eq_true hk
          clear HBR HMR
          go_wp2_with fail
          have HNX2 := Lib.hid HNX.out.drew
          have HM3 := Lib.hid HM2.out.drew
          go_region
          all_goals
            go_wp2_with fail
            go_roundw
            case rel => exact ⟨q, by first | rfl | (have := HQ.out; congr 1; omega) | (have := HQ.out; go_num), ⟨hqk.2, by omega⟩, HNX2.out, HM3.out⟩
            case measure => simp [intOf]; omega
        · obtain rfl : k = i := by omega
          have HF : Hid (StPost key w ob N f a b (.returned (.tuple #[])) wr) := ⟨⟨_, ⟨rfl, HBR.out, HMR.out⟩, HFIN.out⟩⟩
          go_wp2_with fail
          exact ⟨rfl, _, results_none rfl _ _ _, HF.out⟩

end Go.Proofs.YthacjealoomioaaGreatDoor
