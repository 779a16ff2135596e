/- (recon.union).find. -/
import Derived.Test.YthacjealoomioaaDoorZRcU
namespace Go.Proofs.YthacjealoomioaaDoor
set_option linter.unusedVariables false
set_option linter.unusedSimpArgs false
open Go.RowKit

/-- Pairs of numbers, one behind the other. -/
def uni (n : Nat) (up top : List Nat) : List Nat := (List.range (n * 2)).map fun i => if i % 2 = 0 then up.getD (i / 2) 0 else top.getD (i / 2) 0

theorem uni_length (n : Nat) (up top : List Nat) : (uni n up top).length = n * 2 := by simp [uni]

theorem uni_get {n : Nat} {up top : List Nat} {i : Nat} (h : i < n * 2) : (uni n up top)[i]? = some (if i % 2 = 0 then up.getD (i / 2) 0 else top.getD (i / 2) 0) := by
  unfold uni
  rw [List.getElem?_map, List.getElem?_range h]; rfl

theorem uni_at0 {n : Nat} {up top : List Nat} {x : Nat} (h : x < n) : (uni n up top).getD (x * 2) 0 = up.getD x 0 := by
  rw [List.getD_eq_getElem?_getD, uni_get (by omega), if_pos (by omega), show x * 2 / 2 = x by omega]; rfl
theorem uni_at1 {n : Nat} {up top : List Nat} {x : Nat} (h : x < n) : (uni n up top).getD (x * 2 + 1) 0 = top.getD x 0 := by
  rw [List.getD_eq_getElem?_getD, uni_get (by omega), if_neg (by omega), show (x * 2 + 1) / 2 = x by omega]; rfl

theorem uni_set0 {n : Nat} {up top : List Nat} {x v : Nat} (h : x < n) (hl : up.length = n) : (uni n up top).set (x * 2) v = uni n (up.set x v) top := by
  apply List.ext_getElem?
  intro i
  by_cases hi : i < n * 2
  · rw [uni_get hi]
    by_cases e : i = x * 2
    · subst e
      rw [List.getElem?_set_self (by rw [uni_length]; omega), if_pos (by omega), show x * 2 / 2 = x by omega, getD_set_self (by omega)]
    · rw [List.getElem?_set_ne (fun e' => e e'.symm), uni_get hi]
      by_cases c : i % 2 = 0
      · rw [if_pos c, if_pos c, getD_set_ne (by omega)]
      · rw [if_neg c, if_neg c]
  · rw [List.getElem?_eq_none (by simp [uni]; omega), List.getElem?_eq_none (by simp [uni]; omega)]

theorem uni_set1 {n : Nat} {up top : List Nat} {x v : Nat} (h : x < n) (hl : top.length = n) : (uni n up top).set (x * 2 + 1) v = uni n up (top.set x v) := by
  apply List.ext_getElem?
  intro i
  by_cases hi : i < n * 2
  · rw [uni_get hi]
    by_cases e : i = x * 2 + 1
    · subst e
      rw [List.getElem?_set_self (by rw [uni_length]; omega), if_neg (by omega), show (x * 2 + 1) / 2 = x by omega, getD_set_self (by omega)]
    · rw [List.getElem?_set_ne (fun e' => e e'.symm), uni_get hi]
      by_cases c : i % 2 = 0
      · rw [if_pos c, if_pos c]
      · rw [if_neg c, if_neg c, getD_set_ne (by omega)]
  · rw [List.getElem?_eq_none (by simp [uni]; omega), List.getElem?_eq_none (by simp [uni]; omega)]

structure FdPost (w : World) (sb n : Nat) (k top : List Nat) (x : Nat) (e : Ending) (w' : World) : Prop where
  val : e = .returned (.int .i64 ((k.getD x 0 : Nat) : Int))
  out : ∃ up', Blk w' sb 125 (natV (uni n up' top)) ∧ FInv n k up'
  mod : Mod (fun z => z = sb) w w'

set_option maxHeartbeats 2000000 in
set_option maxRecDepth 100000 in
theorem find_ok (w : World) (sb n : Nat) (k up top : List Nat) (hb : Blk w sb 125 (natV (uni n up top))) (hi : FInv n k up) (hn : n ≤ 4096) (x : Nat) (hx : x < n) :
    Calls Tryd.prog 53 #[.slice (some ⟨sb, 0, none⟩) n n, .int .i64 x] w (FdPost w sb n k top x) := by
  have HB := Lib.hid hb
  have HI := Lib.hid hi
  clear hb hi
  go_enter Tryd.func53, Tryd.ntmps53
  go_wp2_with fail
  go_loopw [1] (fun s wr => ∃ (y : Nat) (up' : List Nat), s = .int .i64 y ∧ y < n ∧ k.getD y 0 = k.getD x 0 ∧ Blk wr sb 125 (natV (uni n up' top)) ∧ FInv n k up' ∧ Mod (fun z => z = sb) w wr) (fun s _ => (intOf s).toNat)
  case atStart => exact ⟨x, up, rfl, hx, rfl, HB.out, HI.out, Mod.refl _ _⟩
  case round =>
    obtain ⟨y, up', rfl, hy, hk, hb, hi, hm⟩ := hrel
    clear HB HI
    have HB := Lib.hid hb
    have HI := Lib.hid hi
    have HM := Lib.hid hm
    have HK := Lib.hid hk
    have c0 := blkN hb (i := y * 2) (by rw [uni_length]; omega)
    rw [uni_at0 hy] at c0
    have f0 := hb.free (y * 2)
    have hp := hi.le y hy
    have HUL := Lib.hid hi.ul
    clear hb hi hm hk
    have t0 : (y : Int) < (n : Int) := by omega
    have t1 : (0 : Int) ≤ (y : Int) := by omega
    by_cases he : up'.getD y 0 = y
    · have hky := HI.out.root y hy he
      have HF : Hid ((y : Int) = ((k.getD x 0 : Nat) : Int)) := by show _ = _; rw [← HK.out, hky]
      rw [he] at c0
      have te : ((y : Int) != (y : Int)) = false := by simp
      clear he hp hky
      go_wp2_with fail
      go_ret
      exact ⟨ret_int HF.out, ⟨up', HB.out, HI.out⟩, HM.out⟩
    · have HH := Lib.hid (HI.out.halve hy he)
      have hpn : up'.getD y 0 < n := by omega
      have cp := blkN HB.out (i := up'.getD y 0 * 2) (by rw [uni_length]; omega)
      rw [uni_at0 hpn] at cp
      have hq := HI.out.le _ hpn
      have HL := Lib.hid ((HI.out.lab _ hpn).trans (HI.out.lab y hy))
      generalize up'.getD (up'.getD y 0) 0 = q at *
      generalize up'.getD y 0 = p at *
      have hpy : p < y := by omega
      have tp : (p : Int) < (n : Int) := by omega
      have tp0 : (0 : Int) ≤ (p : Int) := by omega
      have te : ((p : Int) != (y : Int)) = true := by simp; omega
      clear he
      go_wp2_with fail
      refine region_tailD 13 (by kernel_rfl) (by kernel_rfl) ?_
      intro w2 hw2
      replace c0 := hw2.cell c0
      replace cp := hw2.cell cp
      replace f0 := hw2.frozen f0
      have HB2 := Lib.hid (hw2.blk HB.out)
      have HM2 := Lib.hid (hw2.mod HM.out)
      clear hw2 HB HM
      simp only [List.take_succ_cons, List.take_zero, List.drop_succ_cons, List.drop_zero]
      repeat still_step
      refine wpStill_nil ?_
      go_wp2_with fail
      have HB3 : Hid (Blk (w2.setCell ⟨sb, y * 2, none⟩ (.int .i64 q)) sb 125 (natV (uni n (up'.set y q) top))) := by
        have := blkN_set HB2.out (y * 2) q
        rw [uni_set0 hy HUL.out] at this
        exact this
      have hkq : k.getD q 0 = k.getD x 0 := HL.out.trans HK.out
      have HKQ := Lib.hid hkq
      clear hkq
      go_roundw
      case rel => exact ⟨q, up'.set y q, rfl, by omega, HKQ.out, HB3.out, HH.out, HM2.out.setCell _ (fun _ => rfl) _⟩
      case measure => simp only [intOf, Int.toNat_natCast]; omega

end Go.Proofs.YthacjealoomioaaDoor
