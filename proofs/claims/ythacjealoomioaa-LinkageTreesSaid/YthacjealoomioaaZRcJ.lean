/- dsu: New, valid, has, root, Union. -/
import Derived.Test.YthacjealoomioaaZRcK
import Derived.Test.YthacjealoomioaaZMgB
import Derived.BigRegion
import Derived.Deep.DeepCutAuto
namespace Go.Proofs.Ythacjealoomioaa
set_option linter.unusedVariables false
set_option linter.unusedSimpArgs false
open Go.RowKit

/-- The blocks of sets. -/
structure DB where
  s : Nat
  ub : Nat
  lb : Nat
  zb : Nat

def DB.mem (D : DB) (x : Nat) : Prop := x = D.s ∨ x = D.ub ∨ x = D.lb ∨ x = D.zb

def DB.head (D : DB) (n : Nat) (cnt : Int) : List Value :=
  [.pointer (some ⟨D.s, 0, none⟩), .slice (some ⟨D.ub, 0, none⟩) n n, .slice (some ⟨D.lb, 0, none⟩) n n, .slice (some ⟨D.zb, 0, none⟩) n n, .int .i64 cnt]

structure DRep (w : World) (D : DB) (n : Nat) (up least : List Nat) (sz : List Int) (cnt : Int) : Prop where
  sb : Blk w D.s 73 (D.head n cnt)
  ubk : Blk w D.ub 3 (natV up)
  lbk : Blk w D.lb 3 (natV least)
  zbk : Blk w D.zb 3 (sz.map fun y => .int .i64 y)
  szl : sz.length = n
  n1 : D.ub ≠ D.s
  n2 : D.lb ≠ D.s
  n3 : D.zb ≠ D.s
  n4 : D.ub ≠ D.lb
  n5 : D.ub ≠ D.zb
  n6 : D.lb ≠ D.zb

/-- Sets whose labels are k. -/
structure DObj (w : World) (D : DB) (n : Nat) (k : List Nat) : Prop where
  kl : k.length = n
  hn : n ≤ 65536
  ex : ∃ up least sz cnt h H, DRep w D n up least sz cnt ∧ DInv n k up h H ∧ LDInv n k up least

theorem DRep.mod {F : Nat → Prop} {w w' : World} {D : DB} {n : Nat} {up least : List Nat} {sz : List Int} {cnt : Int} (h : DRep w D n up least sz cnt) (hm : Mod F w w') (hF : ∀ x, D.mem x → ¬ F x) : DRep w' D n up least sz cnt :=
  ⟨h.sb.mod hm (hF _ (.inl rfl)), h.ubk.mod hm (hF _ (.inr (.inl rfl))), h.lbk.mod hm (hF _ (.inr (.inr (.inl rfl)))), h.zbk.mod hm (hF _ (.inr (.inr (.inr rfl)))), h.szl, h.n1, h.n2, h.n3, h.n4, h.n5, h.n6⟩

theorem DObj.mod {F : Nat → Prop} {w w' : World} {D : DB} {n : Nat} {k : List Nat} (h : DObj w D n k) (hm : Mod F w w') (hF : ∀ x, D.mem x → ¬ F x) : DObj w' D n k := by
  obtain ⟨up, least, sz, cnt, hh, H, h1, h2, h3⟩ := h.ex
  exact ⟨h.kl, h.hn, up, least, sz, cnt, hh, H, h1.mod hm hF, h2, h3⟩

theorem DObj.below {w w' : World} {D : DB} {n : Nat} {k : List Nat} (h : DObj w D n k) (hb : Below w.heap.size w w') : DObj w' D n k := h.mod (Mod.of_below (F := fun _ => False) hb) (fun _ _ h => h)

/-- Every block of the sets is there. -/
theorem DObj.lt {w : World} {D : DB} {n : Nat} {k : List Nat} (h : DObj w D n k) {x : Nat} (hx : D.mem x) : x < w.heap.size := by
  obtain ⟨up, least, sz, cnt, hh, H, h1, h2, h3⟩ := h.ex
  rcases hx with rfl | rfl | rfl | rfl
  · exact h1.sb.lt
  · exact h1.ubk.lt
  · exact h1.lbk.lt
  · exact h1.zbk.lt

theorem Try.eqlSets (a : Addr) (w : World) : (binOp .eql 46 (.pointer (some a)) (.pointer (some a))).run Try.prog w = .ok (.bool true) w := by
  have hj : ∃ j, Try.prog.info? 73 = some j := Option.isSome_iff_exists.1 (by kernel_rfl)
  obtain ⟨j, hj⟩ := hj
  exact run_eql_ptr_same w a Try.underlying46 hj

set_option maxHeartbeats 400000 in
theorem dvalid_ok (b : Nat) (w : World) (h0 : w.cell? ⟨b, 0, none⟩ = some (.pointer (some ⟨b, 0, none⟩))) :
    Calls Try.prog 29 #[.pointer (some ⟨b, 0, none⟩)] w (Ret (.bool true) w) := by
  have he := Try.eqlSets ⟨b, 0, none⟩ w
  go_enter Try.func29, Try.ntmps29
  go_wp2
  go_ret
  exact ⟨rfl, rfl⟩

set_option maxHeartbeats 400000 in
theorem dhas_ok (b u n a : Nat) (w : World) (h0 : w.cell? ⟨b, 0, none⟩ = some (.pointer (some ⟨b, 0, none⟩))) (h1 : w.cell? ⟨b, 1, none⟩ = some (.slice (some ⟨u, 0, none⟩) n n)) (ha : a < n) (hn : n ≤ 65536) :
    Calls Try.prog 30 #[.pointer (some ⟨b, 0, none⟩), .int .i64 a] w (Ret (.bool true) w) := by
  have t1 : decide ((0 : Int) ≤ (a : Int)) = true := by simp
  have t2 : decide (a < n) = true := by simp [ha]
  go_enter Try.func30, Try.ntmps30
  go_wp2_with (go_at_call 29; refine (dvalid_ok b w h0).mono ?_; rintro e w' ⟨rfl, rfl⟩)
  go_ret
  exact ⟨rfl, rfl⟩

structure RootPost (w : World) (D : DB) (n : Nat) (k up least : List Nat) (sz : List Int) (cnt : Int) (h : Nat → Nat) (H : Nat) (a : Nat) (e : Ending) (w' : World) : Prop where
  out : ∃ (r : Nat) (up' : List Nat), e = .returned (.int .i64 r) ∧ r < n ∧ up'.getD r 0 = r ∧ k.getD r 0 = k.getD a 0 ∧ DRep w' D n up' least sz cnt ∧ DInv n k up' h H ∧ LDInv n k up' least ∧ ∀ r, up.getD r 0 = r → up'.getD r 0 = r
  mod : Mod (fun x => x = D.ub) w w'

theorem DRep.setUp {w : World} {D : DB} {n : Nat} {up least : List Nat} {sz : List Int} {cnt : Int} (h : DRep w D n up least sz cnt) (i x : Nat) : DRep (w.setCell ⟨D.ub, i, none⟩ (.int .i64 (x : Int))) D n (up.set i x) least sz cnt :=
  ⟨h.sb.other _ _ (fun e => h.n1 e.symm), blkN_set h.ubk i x, h.lbk.other _ _ (fun e => h.n4 e.symm), h.zbk.other _ _ (fun e => h.n5 e.symm), h.szl, h.n1, h.n2, h.n3, h.n4, h.n5, h.n6⟩

theorem DRep.drew {w w2 : World} {D : DB} {n : Nat} {up least : List Nat} {sz : List Int} {cnt : Int} (h : DRep w D n up least sz cnt) (hd : DrewOf w w2) : DRep w2 D n up least sz cnt :=
  ⟨hd.blk h.sb, hd.blk h.ubk, hd.blk h.lbk, hd.blk h.zbk, h.szl, h.n1, h.n2, h.n3, h.n4, h.n5, h.n6⟩

set_option maxHeartbeats 2000000 in
set_option maxRecDepth 100000 in
theorem droot_ok (w : World) (D : DB) (n : Nat) (k up least : List Nat) (sz : List Int) (cnt : Int) (h : Nat → Nat) (H : Nat) (hr : DRep w D n up least sz cnt) (hi : DInv n k up h H) (hl : LDInv n k up least) (hn : n ≤ 65536) (a : Nat) (ha : a < n) :
    Calls Try.prog 31 #[.pointer (some ⟨D.s, 0, none⟩), .int .i64 a] w (RootPost w D n k up least sz cnt h H a) := by
  have HR := Lib.hid hr
  have HI := Lib.hid hi
  have HL := Lib.hid hl
  clear hr hi hl
  go_enter Try.func31, Try.ntmps31
  go_wp2_with fail
  go_step3
  go_wp2_with fail
  go_step3
  go_wp2_with fail
  go_loopw [1] (fun s wr => ∃ (x : Nat) (up' : List Nat), s = .int .i64 x ∧ x < n ∧ k.getD x 0 = k.getD a 0 ∧ DRep wr D n up' least sz cnt ∧ DInv n k up' h H ∧ LDInv n k up' least ∧ (∀ r, up.getD r 0 = r → up'.getD r 0 = r) ∧ Mod (fun x => x = D.ub) w wr) (fun s _ => H - h (intOf s).toNat)
  case atStart => exact ⟨a, up, rfl, ha, rfl, HR.out, HI.out, HL.out, fun _ h => h, Mod.refl _ _⟩
  case round =>
    obtain ⟨x, up', rfl, hx, hk, hr, hi, hl, hkp, hm⟩ := hrel
    have HKP := Lib.hid hkp
    clear hkp
    have HR' := Lib.hid hr
    have HI' := Lib.hid hi
    have HL' := Lib.hid hl
    have HM := Lib.hid hm
    have HK := Lib.hid hk
    have c1 := hr.sb.cell (i := 1) rfl
    have cx := blkN hr.ubk (i := x) (by rw [hi.ul]; exact hx)
    have fx := hr.ubk.free x
    have hp := hi.lt x hx
    clear hr hi hl hm hk HR HI HL
    have t0 : (x : Int) < (n : Int) := by omega
    have t1 : (0 : Int) ≤ (x : Int) := by omega
    by_cases he : up'.getD x 0 = x
    · have HE := Lib.hid he
      rw [he] at cx
      clear he hp
      go_wp2_with fail
      rw [Exit.noGoto_ret]
      go_ret
      exact ⟨⟨x, up', rfl, hx, HE.out, HK.out, HR'.out, HI'.out, HL'.out, HKP.out⟩, HM.out⟩
    · have HE := Lib.hid he
      have cp := blkN HR'.out.ubk (i := up'.getD x 0) (by rw [HI'.out.ul]; exact hp)
      have hq := HI'.out.lt _ hp
      have HH1 := Lib.hid (HI'.out.halve hx he)
      have HH2 := Lib.hid (HL'.out.halve HI'.out hx he)
      have HLb := Lib.hid ((HI'.out.lab _ hp).trans (HI'.out.lab x hx))
      have HD1 := Lib.hid (HI'.out.dec x hx he)
      have HD2 : Hid (h x < h (up'.getD (up'.getD x 0) 0)) := by
        show _ < _
        by_cases c : up'.getD (up'.getD x 0) 0 = up'.getD x 0
        · rw [c]; exact HD1.out
        · have := HI'.out.dec _ hp c; have := HD1.out; omega
      have HBD := Lib.hid (HI'.out.bd _ hq)
      have HUL := Lib.hid HI'.out.ul
      have HKP2 : Hid (∀ r, up.getD r 0 = r → (up'.set x (up'.getD (up'.getD x 0) 0)).getD r 0 = r) := fun r hr => by
        rw [getD_set_ne (fun e => HE.out (by have := HKP.out r hr; rw [← e] at this; exact this))]
        exact HKP.out r hr
      generalize up'.getD (up'.getD x 0) 0 = q at *
      generalize up'.getD x 0 = p at *
      have tp : (p : Int) < (n : Int) := by omega
      have tp0 : (0 : Int) ≤ (p : Int) := by omega
      have te : ((p : Int) == (x : Int)) = false := by simp; omega
      clear he
      go_wp2_with fail
      refine region_tailD 13 (by kernel_rfl) (by kernel_rfl) ?_
      intro w2 hw2
      replace c1 := hw2.cell c1
      replace cx := hw2.cell cx
      replace fx := hw2.frozen fx
      replace cp := hw2.cell cp
      have HR2 := Lib.hid (HR'.out.drew hw2)
      have HM2 := Lib.hid (hw2.mod HM.out)
      have hne : D.s ≠ D.ub := fun e => HR'.out.n1 e.symm
      clear hw2 HR' HM
      simp only [List.take_succ_cons, List.take_zero, List.drop_succ_cons, List.drop_zero]
      repeat still_step
      refine wpStill_nil ?_
      go_wp2_with fail
      go_roundw
      case rel =>
        have hkq : k.getD q 0 = k.getD a 0 := HLb.out.trans HK.out
        exact ⟨q, up'.set x q, rfl, hq, hkq, HR2.out.setUp x q, HH1.out, HH2.out, HKP2.out, HM2.out.setCell _ (fun _ => rfl) _⟩
      case measure =>
        have h1 := HD2.out
        have h2 := HBD.out
        simp only [intOf, Int.toNat_natCast]
        omega

end Go.Proofs.Ythacjealoomioaa
