/- kruskal.Order, kruskal.Forest. -/
import Derived.Test.YthacjealoomioaaZRcQ
import Derived.Test.YthacjealoomioaaZRcM
import Derived.Test.YthacjealoomioaaZMgB
import Derived.Deep.RegionHeld3
namespace Go.Proofs.Ythacjealoomioaa
set_option linter.unusedVariables false
set_option linter.unusedSimpArgs false
open Go.RowKit

structure OrPost (w : World) (l : List Ed) (m : Nat) (e : Ending) (w' : World) : Prop where
  out : ∃ ob, e = .returned (.slice (some ⟨ob, 0, none⟩) m m) ∧ Blk w' ob 3 (natV (ordL l)) ∧ w.heap.size ≤ ob
  bel : Below w.heap.size w w'

set_option maxHeartbeats 2000000 in
set_option maxRecDepth 100000 in
theorem order_ok (w : World) (ao : Option Addr) (m cap b off : Nat) (l : List Ed) (he : ERow w ao m b off l) (hm : m ≤ 16384) :
    Calls Try.prog 10 #[.slice ao m cap] w (OrPost w l m) := by
  have HE := Lib.hid he
  have HS := Lib.hid he.size
  have eg : ∀ args w, (callFunc 25 args).run Try.prog w = .ok (.enter 25 args) w := enters_of Try.func25 (by kernel_rfl) rfl
  have HEG := Lib.hid eg
  have hbp : Below w.heap.size w (w.alloc (.cells #[.slice ao m cap] 25)) := (Below.refl _ _).alloc (Nat.le_refl _) _
  have HBP := Lib.hid hbp
  have HPB := Lib.hid (Blk.new w 25 [.slice ao m cap])
  have c0 := HPB.out.cell (i := 0) rfl
  clear he eg hbp
  go_enter Try.func10, Try.ntmps10
  go_wp2_with (at_make; apply keepIt)
  clear c0
  apply Lib.hid
  refine wpList_makeB 3 (.int .i64 0) 8 Try.underlying28 Try.infoInt rfl _ _ _ _ m rfl rfl rfl rfl (by omega) (by unfold maxLen; omega) ?_
  intro w2 B2 hb2
  have HP2 := Lib.hid (HPB.out.below hb2 HPB.out.lt)
  have HB2 := Lib.hid (bel_then HBP.out hb2)
  have hob : w.heap.size < (w.alloc (.cells #[.slice ao m cap] 25)).heap.size := by simp
  have HK2 : Hid (Blk w2 (w.alloc (.cells #[.slice ao m cap] 25)).heap.size 3 (natV (upI m 0))) := by show Blk _ _ _ _; rw [upI_zero, natV_zero]; exact B2
  clear B2 hb2 HBP HPB
  generalize (w.alloc (.cells #[.slice ao m cap] 25)).heap.size = ob at *
  go_wp2_with fail
  go_loopw [10] (fun s wr => ∃ i : Nat, i ≤ m ∧ s = .int .i64 i ∧ Blk wr ob 3 (natV (upI m i)) ∧ Mod (fun x => x = ob) w2 wr) (fun s _ => m - (intOf s).toNat)
  case atStart => exact ⟨0, Nat.zero_le _, rfl, HK2.out, Mod.refl _ _⟩
  case round =>
    obtain ⟨i, hi, rfl, hk, hmd⟩ := hrel
    clear HK2
    have HK := Lib.hid hk
    have HMD := Lib.hid hmd
    clear hk hmd
    by_cases him : i < m
    · have ci := blkN HK.out (i := i) (by rw [upI_length (by omega)]; exact him)
      have fi := HK.out.free i
      generalize (upI m i).getD i 0 = x at *
      go_wp2_with fail
      have HK3 : Hid (Blk (wr.setCell ⟨ob, i, none⟩ (.int .i64 i)) ob 3 (natV (upI m (i + 1)))) := by
        have := blkN_set HK.out i i
        rw [upI_step him] at this
        exact this
      go_roundw
      case rel => exact ⟨i + 1, by omega, by go_num, HK3.out, HMD.out.setCell _ (fun _ => rfl) _⟩
      case measure => simp [intOf]; omega
    · have hie : i = m := by omega
      have him2 : ¬ (i : Int) < (m : Int) := by omega
      have HK3 : Hid (Blk wr ob 3 (natV (List.range m))) := by
        have := HK.out
        rw [hie, upI_end] at this
        exact this
      have HB3 := Lib.hid (bel_mod HB2.out HMD.out (fun x e => by rw [e]; omega))
      have hpo : w.heap.size ≠ ob := by omega
      have HP3 := Lib.hid (HP2.out.mod HMD.out hpo)
      clear hie HK
      go_wp2_with fail
      by_cases h0 : m = 0
      · subst h0
        with_reducible refine (sortN_none wr (some ⟨ob, 0, none⟩) 0 _).mono ?_
        rintro e w3 ⟨rfl, rfl⟩
        go_wp2_with fail
        go_ret
        have hl : l = [] := List.eq_nil_of_length_eq_zero HS.out
        subst hl
        have hnil : ordL ([] : List Ed) = List.range 0 := List.eq_nil_of_length_eq_zero (by rw [ord_length]; rfl)
        exact ⟨⟨ob, rfl, by rw [hnil]; exact HK3.out, by omega⟩, HB3.out⟩
      · have ho := owns_blk HK3.out (by rw [natV_len, List.length_range]; omega)
        rw [natV_len, List.length_range] at ho
        have hER := HE.out.below HB3.out
        have HLT : Hid (0 < m → b < w.heap.size) := fun h => HE.out.lt h
        have hcon := (sortN_ok wr ob m m (List.range m) ho List.length_range (by omega) (by omega) (olt l) (olt_irrefl l) (fun _ _ _ => olt_trans) (fun x _ y _ h1 h2 => Classical.byContradiction fun hne => h2 (olt_tot h1 hne)) (ordC l) (fun x _ y _ => ordC_neg l x y) 25 #[.pointer (some ⟨w.heap.size, 0, none⟩)] HEG.out
          (fun W hW x hx y hy => ordf_ok W w.heap.size ao m cap b off l ((HP3.out.mod hW hpo).cell (i := 0) rfl) (hER.mod hW (fun h => by have := HLT.out h; omega)) hm x y (List.mem_range.1 hx) (List.mem_range.1 hy))
          (ordL l) (by have := ord_perm l; rw [HS.out] at this; exact this) (ord_sorted l))
        with_reducible refine hcon.mono ?_
        rintro e w3 ⟨rfl, ho3, hm3⟩
        have HO3 := Lib.hid (Blk.of_owns ho3)
        have HB4 := Lib.hid (bel_mod HB3.out hm3 (fun x e => by rw [e]; omega))
        clear ho ho3 hm3 hER hcon
        go_wp2_with fail
        go_ret
        exact ⟨⟨ob, rfl, HO3.out, by omega⟩, HB4.out⟩

end Go.Proofs.Ythacjealoomioaa
