/- RcJ, RcL, RcM. -/
import Derived.Test.YthacjealoomioaaGreatDoorZGd
import Derived.Test.YthacjealoomioaaGreatDoorZGb
import Derived.BigRegion
import Derived.Deep.DeepCutAuto
/- dsu: New, valid, has, root, Union. -/
namespace Go.Proofs.YthacjealoomioaaGreatDoor
set_option linter.unusedVariables false
set_option linter.unusedSimpArgs false
open Go.RowKit

/-- The blocks of sets. -/
structure DB where
  s : Nat
  ub : Nat
  lb : Nat
  zb : Nat

def DB.mem (D : DB) (x : Nat) : Prop := x = D.s ∨ x = D.ub ∨ x = D.lb ∨ x = D.zb

def DB.head (D : DB) (n : Nat) (cnt : Int) : List Value :=
  [.pointer (some ⟨D.s, 0, none⟩), .slice (some ⟨D.ub, 0, none⟩) n n, .slice (some ⟨D.lb, 0, none⟩) n n, .slice (some ⟨D.zb, 0, none⟩) n n, .int .i64 cnt]

structure DRep (w : World) (D : DB) (n : Nat) (up least : List Nat) (sz : List Int) (cnt : Int) : Prop where
  sb : Blk w D.s 160 (D.head n cnt)
  ubk : Blk w D.ub 3 (natV up)
  lbk : Blk w D.lb 3 (natV least)
  zbk : Blk w D.zb 3 (sz.map fun y => .int .i64 y)
  szl : sz.length = n
  n1 : D.ub ≠ D.s
  n2 : D.lb ≠ D.s
  n3 : D.zb ≠ D.s
  n4 : D.ub ≠ D.lb
  n5 : D.ub ≠ D.zb
  n6 : D.lb ≠ D.zb

/-- Sets whose labels are k. -/
structure DObj (w : World) (D : DB) (n : Nat) (k : List Nat) : Prop where
  kl : k.length = n
  hn : n ≤ 65536
  ex : ∃ up least sz cnt h H, DRep w D n up least sz cnt ∧ DInv n k up h H ∧ LDInv n k up least

theorem DRep.mod {F : Nat → Prop} {w w' : World} {D : DB} {n : Nat} {up least : List Nat} {sz : List Int} {cnt : Int} (h : DRep w D n up least sz cnt) (hm : Mod F w w') (hF : ∀ x, D.mem x → ¬ F x) : DRep w' D n up least sz cnt :=
  ⟨h.sb.mod hm (hF _ (.inl rfl)), h.ubk.mod hm (hF _ (.inr (.inl rfl))), h.lbk.mod hm (hF _ (.inr (.inr (.inl rfl)))), h.zbk.mod hm (hF _ (.inr (.inr (.inr rfl)))), h.szl, h.n1, h.n2, h.n3, h.n4, h.n5, h.n6⟩

theorem DObj.mod {F : Nat → Prop} {w w' : World} {D : DB} {n : Nat} {k : List Nat} (h : DObj w D n k) (hm : Mod F w w') (hF : ∀ x, D.mem x → ¬ F x) : DObj w' D n k := by
  obtain ⟨up, least, sz, cnt, hh, H, h1, h2, h3⟩ := h.ex
  exact ⟨h.kl, h.hn, up, least, sz, cnt, hh, H, h1.mod hm hF, h2, h3⟩

theorem DObj.below {w w' : World} {D : DB} {n : Nat} {k : List Nat} (h : DObj w D n k) (hb : Below w.heap.size w w') : DObj w' D n k := h.mod (Mod.of_below (F := fun _ => False) hb) (fun _ _ h => h)

/-- Every block of the sets is there. -/
theorem DObj.lt {w : World} {D : DB} {n : Nat} {k : List Nat} (h : DObj w D n k) {x : Nat} (hx : D.mem x) : x < w.heap.size := by
  obtain ⟨up, least, sz, cnt, hh, H, h1, h2, h3⟩ := h.ex
  rcases hx with rfl | rfl | rfl | rfl
  · exact h1.sb.lt
  · exact h1.ubk.lt
  · exact h1.lbk.lt
  · exact h1.zbk.lt

theorem Tryz.eqlSets (a : Addr) (w : World) : (binOp .eql 111 (.pointer (some a)) (.pointer (some a))).run Tryz.prog w = .ok (.bool true) w := by
  have hj : ∃ j, Tryz.prog.info? 160 = some j := Option.isSome_iff_exists.1 (by kernel_rfl)
  obtain ⟨j, hj⟩ := hj
  exact run_eql_ptr_same w a Tryz.underlying111 hj

set_option maxHeartbeats 400000 in
theorem dvalid_ok (b : Nat) (w : World) (h0 : w.cell? ⟨b, 0, none⟩ = some (.pointer (some ⟨b, 0, none⟩))) :
    Calls Tryz.prog 102 #[.pointer (some ⟨b, 0, none⟩)] w (Ret (.bool true) w) := by
  have he := Tryz.eqlSets ⟨b, 0, none⟩ w
  go_enter Tryz.func102, Tryz.ntmps102
  go_wp2
  go_ret
  exact ⟨rfl, rfl⟩

set_option maxHeartbeats 400000 in
theorem dhas_ok (b u n a : Nat) (w : World) (h0 : w.cell? ⟨b, 0, none⟩ = some (.pointer (some ⟨b, 0, none⟩))) (h1 : w.cell? ⟨b, 1, none⟩ = some (.slice (some ⟨u, 0, none⟩) n n)) (ha : a < n) (hn : n ≤ 65536) :
    Calls Tryz.prog 119 #[.pointer (some ⟨b, 0, none⟩), .int .i64 a] w (Ret (.bool true) w) := by
  have t1 : decide ((0 : Int) ≤ (a : Int)) = true := by simp
  have t2 : decide (a < n) = true := by simp [ha]
  go_enter Tryz.func119, Tryz.ntmps119
  go_wp2_with (go_at_call 102; refine (dvalid_ok b w h0).mono ?_; rintro e w' ⟨rfl, rfl⟩)
  go_ret
  exact ⟨rfl, rfl⟩

structure RootPost (w : World) (D : DB) (n : Nat) (k up least : List Nat) (sz : List Int) (cnt : Int) (h : Nat → Nat) (H : Nat) (a : Nat) (e : Ending) (w' : World) : Prop where
  out : ∃ (r : Nat) (up' : List Nat), e = .returned (.int .i64 r) ∧ r < n ∧ up'.getD r 0 = r ∧ k.getD r 0 = k.getD a 0 ∧ DRep w' D n up' least sz cnt ∧ DInv n k up' h H ∧ LDInv n k up' least ∧ ∀ r, up.getD r 0 = r → up'.getD r 0 = r
  mod : Mod (fun x => x = D.ub) w w'

theorem DRep.setUp {w : World} {D : DB} {n : Nat} {up least : List Nat} {sz : List Int} {cnt : Int} (h : DRep w D n up least sz cnt) (i x : Nat) : DRep (w.setCell ⟨D.ub, i, none⟩ (.int .i64 (x : Int))) D n (up.set i x) least sz cnt :=
  ⟨h.sb.other _ _ (fun e => h.n1 e.symm), blkN_set h.ubk i x, h.lbk.other _ _ (fun e => h.n4 e.symm), h.zbk.other _ _ (fun e => h.n5 e.symm), h.szl, h.n1, h.n2, h.n3, h.n4, h.n5, h.n6⟩

theorem DRep.drew {w w2 : World} {D : DB} {n : Nat} {up least : List Nat} {sz : List Int} {cnt : Int} (h : DRep w D n up least sz cnt) (hd : DrewOf w w2) : DRep w2 D n up least sz cnt :=
  ⟨hd.blk h.sb, hd.blk h.ubk, hd.blk h.lbk, hd.blk h.zbk, h.szl, h.n1, h.n2, h.n3, h.n4, h.n5, h.n6⟩

set_option maxHeartbeats 2000000 in
set_option maxRecDepth 100000 in
theorem droot_ok (w : World) (D : DB) (n : Nat) (k up least : List Nat) (sz : List Int) (cnt : Int) (h : Nat → Nat) (H : Nat) (hr : DRep w D n up least sz cnt) (hi : DInv n k up h H) (hl : LDInv n k up least) (hn : n ≤ 65536) (a : Nat) (ha : a < n) :
    Calls Tryz.prog 103 #[.pointer (some ⟨D.s, 0, none⟩), .int .i64 a] w (RootPost w D n k up least sz cnt h H a) := by
  have HR := Lib.hid hr
  have HI := Lib.hid hi
  have HL := Lib.hid hl
  clear hr hi hl
  go_enter Tryz.func103, Tryz.ntmps103
  go_wp2_with fail
  go_step3
  go_wp2_with fail
  go_step3
  go_wp2_with fail
  go_loopw [1] (fun s wr => ∃ (x : Nat) (up' : List Nat), s = .int .i64 x ∧ x < n ∧ k.getD x 0 = k.getD a 0 ∧ DRep wr D n up' least sz cnt ∧ DInv n k up' h H ∧ LDInv n k up' least ∧ (∀ r, up.getD r 0 = r → up'.getD r 0 = r) ∧ Mod (fun x => x = D.ub) w wr) (fun s _ => H - h (intOf s).toNat)
  case atStart => exact ⟨a, up, rfl, ha, rfl, HR.out, HI.out, HL.out, fun _ h => h, Mod.refl _ _⟩
  case round =>
    obtain ⟨x, up', rfl, hx, hk, hr, hi, hl, hkp, hm⟩ := hrel
    have HKP := Lib.hid hkp
    clear hkp
    have HR' := Lib.hid hr
    have HI' := Lib.hid hi
    have HL' := Lib.hid hl
    have HM := Lib.hid hm
    have HK := Lib.hid hk
    have c1 := hr.sb.cell (i := 1) rfl
    have cx := blkN hr.ubk (i := x) (by rw [hi.ul]; exact hx)
    have fx := hr.ubk.free x
    have hp := hi.lt x hx
    clear hr hi hl hm hk HR HI HL
    have t0 : (x : Int) < (n : Int) := by omega
    have t1 : (0 : Int) ≤ (x : Int) := by omega
    by_cases he : up'.getD x 0 = x
    · have HE := Lib.hid he
      rw [he] at cx
      clear he hp
      go_wp2_with fail
      rw [Exit.noGoto_ret]
      go_ret
      exact ⟨⟨x, up', rfl, hx, HE.out, HK.out, HR'.out, HI'.out, HL'.out, HKP.out⟩, HM.out⟩
    · have HE := Lib.hid he
      have cp := blkN HR'.out.ubk (i := up'.getD x 0) (by rw [HI'.out.ul]; exact hp)
      have hq := HI'.out.lt _ hp
      have HH1 := Lib.hid (HI'.out.halve hx he)
      have HH2 := Lib.hid (HL'.out.halve HI'.out hx he)
      have HLb := Lib.hid ((HI'.out.lab _ hp).trans (HI'.out.lab x hx))
      have HD1 := Lib.hid (HI'.out.dec x hx he)
      have HD2 : Hid (h x < h (up'.getD (up'.getD x 0) 0)) := by
        show _ < _
        by_cases c : up'.getD (up'.getD x 0) 0 = up'.getD x 0
        · rw [c]; exact HD1.out
        · have := HI'.out.dec _ hp c; have := HD1.out; omega
      have HBD := Lib.hid (HI'.out.bd _ hq)
      have HUL := Lib.hid HI'.out.ul
      have HKP2 : Hid (∀ r, up.getD r 0 = r → (up'.set x (up'.getD (up'.getD x 0) 0)).getD r 0 = r) := fun r hr => by
        rw [getD_set_ne (fun e => HE.out (by have := HKP.out r hr; rw [← e] at this; exact this))]
        exact HKP.out r hr
      generalize up'.getD (up'.getD x 0) 0 = q at *
      generalize up'.getD x 0 = p at *
      have tp : (p : Int) < (n : Int) := by omega
      have tp0 : (0 : Int) ≤ (p : Int) := by omega
      have te : ((p : Int) == (x : Int)) = false := by simp; omega
      clear he
      go_wp2_with fail
      refine region_tailD 13 (by kernel_rfl) (by kernel_rfl) ?_
      intro w2 hw2
      replace c1 := hw2.cell c1
      replace cx := hw2.cell cx
      replace fx := hw2.frozen fx
      replace cp := hw2.cell cp
      have HR2 := Lib.hid (HR'.out.drew hw2)
      have HM2 := Lib.hid (hw2.mod HM.out)
      have hne : D.s ≠ D.ub := fun e => HR'.out.n1 e.symm
      clear hw2 HR' HM
      simp only [List.take_succ_cons, List.take_zero, List.drop_succ_cons, List.drop_zero]
      repeat still_step
      refine wpStill_nil ?_
      go_wp2_with fail
      go_roundw
      case rel =>
        have hkq : k.getD q 0 = k.getD a 0 := HLb.out.trans HK.out
        exact ⟨q, up'.set x q, rfl, hq, hkq, HR2.out.setUp x q, HH1.out, HH2.out, HKP2.out, HM2.out.setCell _ (fun _ => rfl) _⟩
      case measure =>
        have h1 := HD2.out
        have h2 := HBD.out
        simp only [intOf, Int.toNat_natCast]
        omega

end Go.Proofs.YthacjealoomioaaGreatDoor

/- dsu: New, Union. -/
namespace Go.Proofs.YthacjealoomioaaGreatDoor
set_option linter.unusedVariables false
set_option linter.unusedSimpArgs false
open Go.RowKit

theorem run_minI (x y : Int) (w : World) : (Builtin.min_ #[3, 3] 3 #[Value.int IntKind.i64 x, .int .i64 y]).run Tryz.prog w = .ok (.int .i64 (min x y)) w := by
  by_cases h : x < y
  · have h2 : ¬ y < x := by omega
    rw [Int.min_eq_left (by omega)]
    simp [go_sem, h, h2]
  · rw [Int.min_eq_right (by omega)]
    by_cases h3 : y < x
    · simp [go_sem, h, h3]
    · have : x = y := by omega
      subst this
      simp [go_sem]

structure NsAt (w : World) (D : DB) (n : Nat) (wx : World) : Prop where
  sb : Blk wx D.s 160 [.pointer none, .slice (some ⟨D.ub, 0, none⟩) n n, .slice (some ⟨D.lb, 0, none⟩) n n, .slice (some ⟨D.zb, 0, none⟩) n n, .int .i64 n]
  ubk : Blk wx D.ub 3 (natV (List.replicate n 0))
  lbk : Blk wx D.lb 3 (natV (List.replicate n 0))
  zbk : Blk wx D.zb 3 (natV (List.replicate n 0))
  bel : Below w.heap.size w wx
  new : ∀ x, D.mem x → w.heap.size ≤ x
  ne : D.ub ≠ D.s ∧ D.lb ≠ D.s ∧ D.zb ≠ D.s ∧ D.ub ≠ D.lb ∧ D.ub ≠ D.zb ∧ D.lb ≠ D.zb

theorem nsAt {w : World} {n x y z : Nat} (hx : x = w.heap.size ∨ x = w.heap.size + 1 ∨ x = w.heap.size + 1 + 1) (hy : y = w.heap.size ∨ y = w.heap.size + 1 ∨ y = w.heap.size + 1 + 1) (hz : z = w.heap.size ∨ z = w.heap.size + 1 ∨ z = w.heap.size + 1 + 1) (h1 : x ≠ y) (h2 : x ≠ z) (h3 : y ≠ z) :
    NsAt w ⟨w.heap.size + 1 + 1 + 1, x, y, z⟩ n ((((w.alloc (.cells (List.replicate n (Value.int .i64 0)).toArray 3)).alloc (.cells (List.replicate n (Value.int .i64 0)).toArray 3)).alloc (.cells (List.replicate n (Value.int .i64 0)).toArray 3)).alloc
      (.cells #[.pointer none, .slice (some ⟨x, 0, none⟩) n n, .slice (some ⟨y, 0, none⟩) n n, .slice (some ⟨z, 0, none⟩) n n, .int .i64 n] 160)).drew := by
  have key : ∀ q, (q = w.heap.size ∨ q = w.heap.size + 1 ∨ q = w.heap.size + 1 + 1) → ∀ o, Blk ((((w.alloc (.cells (List.replicate n (Value.int .i64 0)).toArray 3)).alloc (.cells (List.replicate n (Value.int .i64 0)).toArray 3)).alloc (.cells (List.replicate n (Value.int .i64 0)).toArray 3)).alloc o) q 3 (natV (List.replicate n 0)) := by
    intro q hq o
    rw [natV_zero]
    rcases hq with rfl | rfl | rfl
    · exact (((Blk.new w 3 _).alloc _).alloc _).alloc _
    · exact ((Blk.new' _ 3 _ (by simp)).alloc _).alloc _
    · exact (Blk.new' _ 3 _ (by simp)).alloc _
  refine ⟨Blk.new' _ _ [_, _, _, _, _] (by simp), key x hx _, key y hy _, key z hz _, (((((Below.refl _ _).alloc (Nat.le_refl _) _).alloc (by simp) _).alloc (by simp; omega) _).alloc (by simp; omega) _).drew, fun q hq => ?_, ?_⟩
  · unfold DB.mem at hq
    simp only at hq
    omega
  · simp only
    omega

/-- The first i are done. -/
def upI (n i : Nat) : List Nat := List.range i ++ List.replicate (n - i) 0

theorem upI_zero (n : Nat) : upI n 0 = List.replicate n 0 := by simp [upI]
theorem upI_end (n : Nat) : upI n n = List.range n := by simp [upI]
theorem upI_length {n i : Nat} (h : i ≤ n) : (upI n i).length = n := by simp [upI]; omega
theorem upI_step {n i : Nat} (h : i < n) : (upI n i).set i i = upI n (i + 1) := by
  unfold upI
  rw [List.set_append_right _ _ (by simp), show i - (List.range i).length = 0 by simp, show n - i = (n - (i + 1)) + 1 by omega, List.replicate_succ, List.set_cons_zero, List.range_succ, List.append_assoc]
  rfl
def onI (n i : Nat) : List Int := List.replicate i 1 ++ List.replicate (n - i) 0
theorem onI_zero (n : Nat) : onI n 0 = List.replicate n 0 := by simp [onI]
theorem onI_length {n i : Nat} (h : i ≤ n) : (onI n i).length = n := by simp [onI]; omega
theorem onI_step {n i : Nat} (h : i < n) : (onI n i).set i 1 = onI n (i + 1) := by
  unfold onI
  rw [List.set_append_right _ _ (by simp), List.length_replicate, Nat.sub_self, show n - i = (n - (i + 1)) + 1 by omega, List.replicate_succ, List.set_cons_zero, List.replicate_succ', List.append_assoc]
  rfl

structure DNPost (w : World) (n : Nat) (e : Ending) (w' : World) : Prop where
  out : ∃ D : DB, e = .returned (.tuple #[.pointer (some ⟨D.s, 0, none⟩), .int .i64 0]) ∧ DObj w' D n (List.range n) ∧ ∀ x, D.mem x → w.heap.size ≤ x
  bel : Below w.heap.size w w'

set_option maxHeartbeats 4000000 in
set_option maxRecDepth 100000 in
theorem dnew_ok (w : World) (n : Nat) (hn : n ≤ 65536) : Calls Tryz.prog 100 #[.int .i64 n] w (DNPost w n) := by
  have hmk : ∀ w, (Instr.makeSlice 24 (.int .i64 (n : Int)) (.int .i64 (n : Int))).run Tryz.prog w = .ok (.slice (some ⟨w.heap.size, 0, none⟩) n n) (w.alloc (.cells (List.replicate n (Value.int .i64 0)).toArray 3)) := fun w =>
    run_makeE 24 3 (.int .i64 0) 8 Tryz.underlying24 Tryz.infoInt rfl .i64 .i64 n (by omega) (by unfold maxLen; omega) w
  have t1 : decide ((n : Int) < 0) = false := by simp
  have t2 : decide (65536 < n) = false := by simp; omega
  have t2' : decide ((65536 : Int) < (n : Int)) = false := by simp; omega
  go_enter Tryz.func100, Tryz.ntmps100
  go_wp2_with fail
  go_cut [4] (fun s4 wx => ∃ D : DB, s4 = .pointer (some ⟨D.s, 0, none⟩) ∧ NsAt w D n wx)
  case first =>
    go_region
    all_goals go_wp2_with fail
    all_goals go_meet
    all_goals exact ⟨⟨_, _, _, _⟩, rfl, nsAt (by simp) (by simp) (by simp) (by omega) (by omega) (by omega)⟩
  case rest =>
    obtain ⟨D, rfl, hns⟩ := hcut
    clear hmk t1 t2 t2'
    have HNS := Lib.hid hns
    have g0 := hns.sb.cell (i := 0) rfl
    have gf := hns.sb.free 0
    clear hns
    go_wp2_with fail
    have hw1 : Mod (fun x => x = D.s) wc (wc.setCell ⟨D.s, 0, none⟩ (.pointer (some ⟨D.s, 0, none⟩))) := (Mod.refl (fun x => x = D.s) wc).setCell ⟨D.s, 0, none⟩ (fun _ => rfl) _
    obtain ⟨e1, e2, e3, e4, e5, e6⟩ := HNS.out.ne
    have HR : Hid (DRep (wc.setCell ⟨D.s, 0, none⟩ (.pointer (some ⟨D.s, 0, none⟩))) D n (upI n 0) (upI n 0) (onI n 0) n) := by
      have := HNS.out.sb.set 0 (.pointer (some ⟨D.s, 0, none⟩))
      refine ⟨this, by rw [upI_zero]; exact HNS.out.ubk.mod hw1 e1, by rw [upI_zero]; exact HNS.out.lbk.mod hw1 e2, ?_, onI_length (Nat.zero_le _), e1, e2, e3, e4, e5, e6⟩
      have h2 := HNS.out.zbk.mod hw1 e3
      rw [natV_zero] at h2
      rw [onI_zero, List.map_replicate]
      exact h2
    have HB1 := Lib.hid (bel_mod HNS.out.bel hw1 (fun x e => by rw [e]; exact HNS.out.new _ (.inl rfl)))
    have HNW := Lib.hid HNS.out.new
    clear hw1 g0 gf HNS
    generalize wc.setCell ⟨D.s, 0, none⟩ (.pointer (some ⟨D.s, 0, none⟩)) = W1 at *
    go_loopw [26] (fun s wr => ∃ i : Nat, i ≤ n ∧ s = .int .i64 i ∧ DRep wr D n (upI n i) (upI n i) (onI n i) n ∧ Mod D.mem W1 wr) (fun s _ => n - (intOf s).toNat)
    case atStart => exact ⟨0, Nat.zero_le _, rfl, HR.out, Mod.refl _ _⟩
    case round =>
      obtain ⟨i, hi, rfl, hr, hm⟩ := hrel
      clear HR
      have HR := Lib.hid hr
      have HM := Lib.hid hm
      have c1 := hr.sb.cell (i := 1) rfl
      have c2 := hr.sb.cell (i := 2) rfl
      have c3 := hr.sb.cell (i := 3) rfl
      clear hr hm
      by_cases hin : i < n
      · have u1 := blkN HR.out.ubk (i := i) (by rw [upI_length (by omega)]; exact hin)
        have u2 := blkN HR.out.lbk (i := i) (by rw [upI_length (by omega)]; exact hin)
        have u3 := blkI HR.out.zbk (i := i) (by rw [onI_length (by omega)]; exact hin)
        have f1 := HR.out.ubk.free i
        have f2 := HR.out.lbk.free i
        have f3 := HR.out.zbk.free i
        generalize (upI n i).getD i 0 = x1 at *
        generalize (onI n i).getD i 0 = x3 at *
        have t1 : (i : Int) < (n : Int) := by omega
        have t0 : (0 : Int) ≤ (i : Int) := by omega
        go_wp2_with fail
        have e1' : D.s ≠ D.ub := fun e => e1 e.symm
        have e2' : D.s ≠ D.lb := fun e => e2 e.symm
        have e3' : D.s ≠ D.zb := fun e => e3 e.symm
        have e4' : D.lb ≠ D.ub := fun e => e4 e.symm
        have e5' : D.zb ≠ D.ub := fun e => e5 e.symm
        have e6' : D.zb ≠ D.lb := fun e => e6 e.symm
        go_region
        go_wp2_with fail
        have HR3 : Hid (DRep (((wr.setCell ⟨D.ub, i, none⟩ (.int .i64 i)).setCell ⟨D.lb, i, none⟩ (.int .i64 i)).setCell ⟨D.zb, i, none⟩ (.int .i64 1)).drew D n (upI n (i + 1)) (upI n (i + 1)) (onI n (i + 1)) n) := by
          have b1 := blkN_set HR.out.ubk i i
          have b2 := blkN_set (HR.out.lbk.other ⟨D.ub, i, none⟩ (.int .i64 i) (fun e => e4 e.symm)) i i
          have b3 := blkI_set ((HR.out.zbk.other ⟨D.ub, i, none⟩ (.int .i64 i) (fun e => e5 e.symm)).other ⟨D.lb, i, none⟩ (.int .i64 i) (fun e => e6 e.symm)) i 1
          rw [upI_step hin] at b1 b2
          rw [onI_step hin] at b3
          exact DRep.drew ⟨((HR.out.sb.other _ _ (fun e => e1 e.symm)).other _ _ (fun e => e2 e.symm)).other _ _ (fun e => e3 e.symm), (b1.other _ _ e4).other _ _ e5, b2.other _ _ e6, b3, onI_length (by omega), e1, e2, e3, e4, e5, e6⟩ rfl
        go_roundw
        case rel => exact ⟨i + 1, by omega, by go_num, HR3.out, (((HM.out.setCell _ (fun _ => .inr (.inl rfl)) _).setCell _ (fun _ => .inr (.inr (.inl rfl))) _).setCell _ (fun _ => .inr (.inr (.inr rfl))) _).drew⟩
        case measure => simp [intOf]; omega
      · have hie : i = n := by omega
        have hie2 : ¬ (i : Int) < (n : Int) := by omega
        have HF : Hid (DObj wr D n (List.range n)) := by
          have hr := HR.out
          rw [hie, upI_end] at hr
          refine ⟨List.length_range, hn, _, _, _, _, _, _, hr, DInv.start n, List.length_range, fun r hr' e => ?_⟩
          rfl
        have HBF := Lib.hid (bel_mod HB1.out HM.out (fun x e => HNW.out x e))
        clear hie
        go_wp2_with fail
        go_ret2
        exact ⟨⟨D, rfl, HF.out, HNW.out⟩, HBF.out⟩

end Go.Proofs.YthacjealoomioaaGreatDoor

/- dsu: Union. -/
namespace Go.Proofs.YthacjealoomioaaGreatDoor
set_option linter.unusedVariables false
set_option linter.unusedSimpArgs false
open Go.RowKit

/-- The labels when the sets of a and b are united. -/
def joinK (k : List Nat) (a b : Nat) : List Nat := if k.getD a 0 = k.getD b 0 then k else relN k (min (k.getD a 0) (k.getD b 0)) (max (k.getD a 0) (k.getD b 0))

structure UnPost (w : World) (D : DB) (n : Nat) (k : List Nat) (a b : Nat) (e : Ending) (w' : World) : Prop where
  val : e = .returned (.tuple #[.bool (!decide (k.getD a 0 = k.getD b 0)), .int .i64 0])
  obj : DObj w' D n (joinK k a b)
  mod : Mod D.mem w w'

theorem DRep.setSz {w : World} {D : DB} {n : Nat} {up least : List Nat} {sz : List Int} {cnt : Int} (h : DRep w D n up least sz cnt) (i : Nat) (x : Int) : DRep (w.setCell ⟨D.zb, i, none⟩ (.int .i64 x)) D n up least (sz.set i x) cnt :=
  ⟨h.sb.other _ _ (fun e => h.n3 e.symm), h.ubk.other _ _ h.n5, h.lbk.other _ _ h.n6, blkI_set h.zbk i x, by simp [h.szl], h.n1, h.n2, h.n3, h.n4, h.n5, h.n6⟩

theorem DRep.setLe {w : World} {D : DB} {n : Nat} {up least : List Nat} {sz : List Int} {cnt : Int} (h : DRep w D n up least sz cnt) (i x : Nat) : DRep (w.setCell ⟨D.lb, i, none⟩ (.int .i64 (x : Int))) D n up (least.set i x) sz cnt :=
  ⟨h.sb.other _ _ (fun e => h.n2 e.symm), h.ubk.other _ _ h.n4, blkN_set h.lbk i x, h.zbk.other _ _ (fun e => h.n6 e.symm), h.szl, h.n1, h.n2, h.n3, h.n4, h.n5, h.n6⟩

theorem DRep.setCnt {w : World} {D : DB} {n : Nat} {up least : List Nat} {sz : List Int} {cnt : Int} (h : DRep w D n up least sz cnt) (x : Int) : DRep (w.setCell ⟨D.s, 4, none⟩ (.int .i64 x)) D n up least sz x :=
  ⟨h.sb.set 4 (.int .i64 x), h.ubk.other _ _ h.n1, h.lbk.other _ _ h.n2, h.zbk.other _ _ h.n3, h.szl, h.n1, h.n2, h.n3, h.n4, h.n5, h.n6⟩

/-- The last part: y goes under x. -/
structure FinU (w : World) (D : DB) (n : Nat) (up least : List Nat) (sz : List Int) (x y : Nat) (w' : World) : Prop where
  rep : ∃ sz' cnt', DRep w' D n (up.set y x) (least.set x (min (least.getD x 0) (least.getD y 0))) sz' cnt'
  mod : Mod D.mem w w'

set_option maxHeartbeats 8000000 in
set_option maxRecDepth 100000 in
theorem union_ok (w : World) (D : DB) (n : Nat) (k : List Nat) (hd : DObj w D n k) (a b : Nat) (ha : a < n) (hb : b < n) :
    Calls Tryz.prog 101 #[.pointer (some ⟨D.s, 0, none⟩), .int .i64 a, .int .i64 b] w (UnPost w D n k a b) := by
  obtain ⟨up, least, sz, cnt, h, H, hr, hi, hl⟩ := hd.ex
  have hn := hd.hn
  have HKL := Lib.hid hd.kl
  have HR := Lib.hid hr
  have HI := Lib.hid hi
  have HL := Lib.hid hl
  have c0 := hr.sb.cell (i := 0) rfl
  have c1 := hr.sb.cell (i := 1) rfl
  clear hd hr hi hl
  go_enter Tryz.func101, Tryz.ntmps101
  go_wp2_with (first
    | (go_at_call 102; refine (dvalid_ok D.s w c0).mono ?_; rintro e w' ⟨rfl, rfl⟩)
    | (go_at_call 119; with_reducible refine (dhas_ok D.s D.ub n a w c0 c1 ha hn).mono ?_; rintro e w' ⟨rfl, rfl⟩)
    | (go_at_call 119; with_reducible refine (dhas_ok D.s D.ub n b w c0 c1 hb hn).mono ?_; rintro e w' ⟨rfl, rfl⟩))
  with_reducible refine (droot_ok w D n k up least sz cnt h H HR.out HI.out HL.out hn a ha).mono ?_
  rintro e w1 ⟨⟨r1, up1, rfl, hr1, er1, kr1, hp1, hi1, hl1, _⟩, hm1⟩
  have HR1 := Lib.hid hp1
  have HI1 := Lib.hid hi1
  have HL1 := Lib.hid hl1
  have HM1 := Lib.hid hm1
  have HE1 := Lib.hid er1
  have HK1 := Lib.hid kr1
  clear hp1 hi1 hl1 hm1 er1 kr1 c0 c1 HR HI HL
  go_wp2_with fail
  with_reducible refine (droot_ok w1 D n k up1 least sz cnt h H HR1.out HI1.out HL1.out hn b hb).mono ?_
  rintro e w2 ⟨⟨r2, up2, rfl, hr2, er2, kr2, hp2, hi2, hl2, hkp⟩, hm2⟩
  have HE1' := Lib.hid (hkp r1 HE1.out)
  have HR2 := Lib.hid hp2
  have HI2 := Lib.hid hi2
  have HL2 := Lib.hid hl2
  have HM2 := Lib.hid ((HM1.out.trans hm2 (fun _ _ h => h)).mono (G := D.mem) (fun _ _ h => .inr (.inl h)))
  have HE2 := Lib.hid er2
  have HK2 := Lib.hid kr2
  clear hp2 hi2 hl2 hm2 er2 kr2 hkp HR1 HI1 HL1 HM1 HE1
  by_cases heq : r1 = r2
  · have hkk : k.getD a 0 = k.getD b 0 := by rw [← HK1.out, ← HK2.out, heq]
    have HKK := Lib.hid hkk
    have te : ((r1 : Int) == (r2 : Int)) = true := by simp [heq]
    clear heq hkk
    go_wp2_with fail
    go_ret2
    refine ⟨?_, ?_, HM2.out⟩
    · rw [decide_eq_true HKK.out]; rfl
    · unfold joinK
      rw [if_pos HKK.out]
      exact ⟨HKL.out, hn, _, _, _, _, _, _, HR2.out, HI2.out, HL2.out⟩
  · have hkk : k.getD a 0 ≠ k.getD b 0 := fun e => heq (HI2.out.one r1 r2 hr1 hr2 HE1'.out HE2.out (by rw [HK1.out, HK2.out, e]))
    have HKK := Lib.hid hkk
    have te : ((r1 : Int) == (r2 : Int)) = false := by simp; omega
    -- what is to be shown for x = r1 or x = r2
    have FIN : Hid (∀ x y : Nat, ((x = r1 ∧ y = r2) ∨ (x = r2 ∧ y = r1)) → ∀ w', FinU w2 D n up2 least sz x y w' → UnPost w D n k a b (.returned (.tuple #[.bool true, .int .i64 0])) w') := by
      intro x y hxy w' hf
      obtain ⟨sz', cnt', hrep⟩ := hf.rep
      have hkab := HKK.out
      have ea := HK1.out
      have eb := HK2.out
      refine ⟨by rw [decide_eq_false hkab]; rfl, ?_, HM2.out.trans hf.mod (fun _ _ h => h)⟩
      unfold joinK
      rw [if_neg hkab]
      have hlt : min (k.getD a 0) (k.getD b 0) < max (k.getD a 0) (k.getD b 0) := by omega
      have hx : x < n := by omega
      have hy : y < n := by omega
      have ex : up2.getD x 0 = x := by rcases hxy with ⟨e, _⟩ | ⟨e, _⟩ <;> rw [e]; exact HE1'.out; exact HE2.out
      have ey : up2.getD y 0 = y := by rcases hxy with ⟨_, e⟩ | ⟨_, e⟩ <;> rw [e]; exact HE2.out; exact HE1'.out
      have hll : (k.getD x 0 = min (k.getD a 0) (k.getD b 0) ∧ k.getD y 0 = max (k.getD a 0) (k.getD b 0)) ∨ (k.getD x 0 = max (k.getD a 0) (k.getD b 0) ∧ k.getD y 0 = min (k.getD a 0) (k.getD b 0)) := by
        rcases hxy with ⟨rfl, rfl⟩ | ⟨rfl, rfl⟩
        · rw [ea, eb]; omega
        · rw [ea, eb]; omega
      exact ⟨by rw [relN_length]; exact HKL.out, hn, _, _, _, _, _, _, hrep, HI2.out.join HKL.out hx hy ex ey hll (by omega), HL2.out.join HI2.out HKL.out hx hy ex ey hll hlt⟩
    have s0 := HR2.out.sb.cell (i := 3) rfl
    have z1 := blkI HR2.out.zbk (i := r1) (by rw [HR2.out.szl]; exact hr1)
    have z2 := blkI HR2.out.zbk (i := r2) (by rw [HR2.out.szl]; exact hr2)
    have t1 : (r1 : Int) < (n : Int) := by omega
    have t2 : (r2 : Int) < (n : Int) := by omega
    have t3 : (0 : Int) ≤ (r1 : Int) := by omega
    have t4 : (0 : Int) ≤ (r2 : Int) := by omega
    obtain ⟨q1, hq1⟩ : ∃ q, sz.getD r1 0 = q := ⟨_, rfl⟩
    obtain ⟨q2, hq2⟩ : ∃ q, sz.getD r2 0 = q := ⟨_, rfl⟩
    rw [hq1] at z1
    rw [hq2] at z2
    clear hq1 hq2
    clear heq hkk
    by_cases hq : q1 < q2
    · have tq : decide (q1 < q2) = true := by simp [hq]
      clear hq
      go_wp2_with fail
      go_quiet (fail)
      have HR3 : Hid (DRep (w2.drewN nq) D n up2 least sz cnt) := HR2.out.mod (F := fun _ => False) ((Mod.refl _ w2).drewN nq) (fun _ _ h => h)
      have HM3 : Hid (Mod D.mem w2 (w2.drewN nq)) := (Mod.refl _ w2).drewN nq
      clear s0 z1 z2
      generalize w2.drewN nq = w3 at *
      have s1 := HR3.out.sb.cell (i := 1) rfl
      have uy := blkN HR3.out.ubk (i := r1) (by rw [HI2.out.ul]; exact hr1)
      have fy := HR3.out.ubk.free r1
      generalize up2.getD r1 0 = oy at *
      go_wp2_with fail
      have HR4 := Lib.hid (HR3.out.setUp r1 r2)
      have HM4 := Lib.hid (HM3.out.setCell ⟨D.ub, r1, none⟩ (fun _ => .inr (.inl rfl)) (.int .i64 (r2 : Int)))
      clear s1 uy fy HR3 HM3
      generalize w3.setCell ⟨D.ub, r1, none⟩ (.int .i64 (r2 : Int)) = w4 at *
      have s3 := HR4.out.sb.cell (i := 3) rfl
      have zx := blkI HR4.out.zbk (i := r2) (by rw [HR4.out.szl]; exact hr2)
      have zy := blkI HR4.out.zbk (i := r1) (by rw [HR4.out.szl]; exact hr1)
      have fx := HR4.out.zbk.free r2
      generalize sz.getD r2 0 = p1 at *
      generalize sz.getD r1 0 = p2 at *
      refine region_tailD 16 (by kernel_rfl) (by kernel_rfl) ?_
      intro w5 hw5
      replace s3 := hw5.cell s3
      replace zx := hw5.cell zx
      replace zy := hw5.cell zy
      replace fx := hw5.frozen fx
      have HR5 := Lib.hid (HR4.out.drew hw5)
      have HM5 := Lib.hid (hw5.mod HM4.out)
      clear hw5 HR4 HM4
      obtain ⟨sw, hsw⟩ : ∃ sw, IntKind.i64.wrap (p1 + p2) = sw := ⟨_, rfl⟩
      simp only [List.take_succ_cons, List.take_zero, List.drop_succ_cons, List.drop_zero]
      repeat still_step
      refine wpStill_nil ?_
      go_wp2_with fail
      have HR6 := Lib.hid (HR5.out.setSz r2 sw)
      have HM6 := Lib.hid (HM5.out.setCell ⟨D.zb, r2, none⟩ (fun _ => .inr (.inr (.inr rfl))) (.int .i64 sw))
      clear s3 zx zy fx HR5 HM5 hsw
      generalize w5.setCell ⟨D.zb, r2, none⟩ (.int .i64 sw) = w6 at *
      have s2 := HR6.out.sb.cell (i := 2) rfl
      have lx := blkN HR6.out.lbk (i := r2) (by rw [HL2.out.1]; exact hr2)
      have ly := blkN HR6.out.lbk (i := r1) (by rw [HL2.out.1]; exact hr1)
      have fl := HR6.out.lbk.free r2
      have hmin := run_minI ((least.getD r2 0 : Nat) : Int) ((least.getD r1 0 : Nat) : Int)
      have HMN : Hid (min ((least.getD r2 0 : Nat) : Int) ((least.getD r1 0 : Nat) : Int) = ((min (least.getD r2 0) (least.getD r1 0) : Nat) : Int)) := by show _ = _; omega
      rw [HMN.out] at hmin
      have HFU : Hid (∀ w' sz' cnt', DRep w' D n (up2.set r1 r2) (least.set r2 (min (least.getD r2 0) (least.getD r1 0))) sz' cnt' → Mod D.mem w2 w' → UnPost w D n k a b (.returned (.tuple #[.bool true, .int .i64 0])) w') := fun w' sz' cnt' h1 h2 => FIN.out r2 r1 (.inr ⟨rfl, rfl⟩) w' ⟨⟨sz', cnt', h1⟩, h2⟩
      generalize min (least.getD r2 0) (least.getD r1 0) = mn at *
      generalize least.getD r2 0 = lx' at *
      generalize least.getD r1 0 = ly' at *
      refine region_tailD 21 (by kernel_rfl) (by kernel_rfl) ?_
      intro w7 hw7
      replace s2 := hw7.cell s2
      replace lx := hw7.cell lx
      replace ly := hw7.cell ly
      replace fl := hw7.frozen fl
      have HR7 := Lib.hid (HR6.out.drew hw7)
      have HM7 := Lib.hid (hw7.mod HM6.out)
      clear hw7 HR6 HM6 HMN
      simp only [List.take_succ_cons, List.take_zero, List.drop_succ_cons, List.drop_zero]
      repeat still_step
      refine wpStill_nil ?_
      have s4 := HR7.out.sb.cell (i := 4) rfl
      have f4 := HR7.out.sb.free 4
      have hnl : D.s ≠ D.lb := fun e => HR7.out.n2 e.symm
      go_wp2_with fail
      go_ret2
      exact HFU.out _ _ _ ((HR7.out.setLe r2 mn).setCnt _) ((HM7.out.setCell _ (fun _ => .inr (.inr (.inl rfl))) _).setCell _ (fun _ => .inl rfl) _)
    · have tq : decide (q1 < q2) = false := by simp; omega
      clear hq
      go_wp2_with fail
      go_quiet (fail)
      have HR3 : Hid (DRep (w2.drewN nq) D n up2 least sz cnt) := HR2.out.mod (F := fun _ => False) ((Mod.refl _ w2).drewN nq) (fun _ _ h => h)
      have HM3 : Hid (Mod D.mem w2 (w2.drewN nq)) := (Mod.refl _ w2).drewN nq
      clear s0 z1 z2
      generalize w2.drewN nq = w3 at *
      have s1 := HR3.out.sb.cell (i := 1) rfl
      have uy := blkN HR3.out.ubk (i := r2) (by rw [HI2.out.ul]; exact hr2)
      have fy := HR3.out.ubk.free r2
      generalize up2.getD r2 0 = oy at *
      go_wp2_with fail
      have HR4 := Lib.hid (HR3.out.setUp r2 r1)
      have HM4 := Lib.hid (HM3.out.setCell ⟨D.ub, r2, none⟩ (fun _ => .inr (.inl rfl)) (.int .i64 (r1 : Int)))
      clear s1 uy fy HR3 HM3
      generalize w3.setCell ⟨D.ub, r2, none⟩ (.int .i64 (r1 : Int)) = w4 at *
      have s3 := HR4.out.sb.cell (i := 3) rfl
      have zx := blkI HR4.out.zbk (i := r1) (by rw [HR4.out.szl]; exact hr1)
      have zy := blkI HR4.out.zbk (i := r2) (by rw [HR4.out.szl]; exact hr2)
      have fx := HR4.out.zbk.free r1
      generalize sz.getD r1 0 = p1 at *
      generalize sz.getD r2 0 = p2 at *
      refine region_tailD 16 (by kernel_rfl) (by kernel_rfl) ?_
      intro w5 hw5
      replace s3 := hw5.cell s3
      replace zx := hw5.cell zx
      replace zy := hw5.cell zy
      replace fx := hw5.frozen fx
      have HR5 := Lib.hid (HR4.out.drew hw5)
      have HM5 := Lib.hid (hw5.mod HM4.out)
      clear hw5 HR4 HM4
      obtain ⟨sw, hsw⟩ : ∃ sw, IntKind.i64.wrap (p1 + p2) = sw := ⟨_, rfl⟩
      simp only [List.take_succ_cons, List.take_zero, List.drop_succ_cons, List.drop_zero]
      repeat still_step
      refine wpStill_nil ?_
      go_wp2_with fail
      have HR6 := Lib.hid (HR5.out.setSz r1 sw)
      have HM6 := Lib.hid (HM5.out.setCell ⟨D.zb, r1, none⟩ (fun _ => .inr (.inr (.inr rfl))) (.int .i64 sw))
      clear s3 zx zy fx HR5 HM5 hsw
      generalize w5.setCell ⟨D.zb, r1, none⟩ (.int .i64 sw) = w6 at *
      have s2 := HR6.out.sb.cell (i := 2) rfl
      have lx := blkN HR6.out.lbk (i := r1) (by rw [HL2.out.1]; exact hr1)
      have ly := blkN HR6.out.lbk (i := r2) (by rw [HL2.out.1]; exact hr2)
      have fl := HR6.out.lbk.free r1
      have hmin := run_minI ((least.getD r1 0 : Nat) : Int) ((least.getD r2 0 : Nat) : Int)
      have HMN : Hid (min ((least.getD r1 0 : Nat) : Int) ((least.getD r2 0 : Nat) : Int) = ((min (least.getD r1 0) (least.getD r2 0) : Nat) : Int)) := by show _ = _; omega
      rw [HMN.out] at hmin
      have HFU : Hid (∀ w' sz' cnt', DRep w' D n (up2.set r2 r1) (least.set r1 (min (least.getD r1 0) (least.getD r2 0))) sz' cnt' → Mod D.mem w2 w' → UnPost w D n k a b (.returned (.tuple #[.bool true, .int .i64 0])) w') := fun w' sz' cnt' h1 h2 => FIN.out r1 r2 (.inl ⟨rfl, rfl⟩) w' ⟨⟨sz', cnt', h1⟩, h2⟩
      generalize min (least.getD r1 0) (least.getD r2 0) = mn at *
      generalize least.getD r1 0 = lx' at *
      generalize least.getD r2 0 = ly' at *
      refine region_tailD 21 (by kernel_rfl) (by kernel_rfl) ?_
      intro w7 hw7
      replace s2 := hw7.cell s2
      replace lx := hw7.cell lx
      replace ly := hw7.cell ly
      replace fl := hw7.frozen fl
      have HR7 := Lib.hid (HR6.out.drew hw7)
      have HM7 := Lib.hid (hw7.mod HM6.out)
      clear hw7 HR6 HM6 HMN
      simp only [List.take_succ_cons, List.take_zero, List.drop_succ_cons, List.drop_zero]
      repeat still_step
      refine wpStill_nil ?_
      have s4 := HR7.out.sb.cell (i := 4) rfl
      have f4 := HR7.out.sb.free 4
      have hnl : D.s ≠ D.lb := fun e => HR7.out.n2 e.symm
      go_wp2_with fail
      go_ret2
      exact HFU.out _ _ _ ((HR7.out.setLe r1 mn).setCnt _) ((HM7.out.setCell _ (fun _ => .inr (.inr (.inl rfl))) _).setCell _ (fun _ => .inl rfl) _)

end Go.Proofs.YthacjealoomioaaGreatDoor
