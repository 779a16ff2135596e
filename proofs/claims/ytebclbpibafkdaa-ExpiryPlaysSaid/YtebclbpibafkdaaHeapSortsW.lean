/- HeapSorts: the walk. -/
import Derived.Test.YtebclbpibafkdaaHeapI
import Derived.Test.YtebclbpibafkdaaHeapSortsP
namespace Go.Proofs.Ytebclbpibafkdaa
set_option linter.unusedVariables false
set_option linter.unusedSimpArgs false
open Go.RowKit

theorem Try.infoBool : (Try.prog.info? 4).map (fun i => (i.zero, i.size, i.bytes)) = some (some (.bool false), 1, 1) := by kernel_rfl

structure SortsRel (z : List Int) (w : World) (hb sb lb k : Nat) (g : HG) (wr : World) : Prop where
  obj : HObj wr hb 300 ((sortE (pairs z)).drop k) g
  foot : ∀ x, g.foot x → w.heap.size ≤ x
  bel : Below w.heap.size w wr
  seen : Blk wr sb 4 (seenRow (sortE (pairs z)) k)
  last : Blk wr lb 28 [.int .i64 (lastE (sortE (pairs z)) k).1, .int .i64 (lastE (sortE (pairs z)) k).2]
  ns : ¬ g.foot sb
  nl : ¬ g.foot lb
  ne : sb ≠ lb
  hsb : w.heap.size ≤ sb
  hlb : w.heap.size ≤ lb

set_option maxHeartbeats 4000000 in
set_option maxRecDepth 100000 in
theorem sorts_long (ao : Option Addr) (len cap : Nat) (w : World) (hl : 300 < len) (hm : len ≤ 9223372036854775807) :
    Calls Try.prog 3 #[.slice ao len cap] w (RetB (.bool true) w) := by
  go_enter Try.func3, Try.ntmps3
  go_wp2_with fail
  with_reducible refine (works04 _).mono ?_
  rintro e w' ⟨rfl, hb⟩
  have HB := Lib.hid hb
  clear hb
  go_wp2_with fail
  go_ret
  exact ⟨rfl, HB.out⟩

set_option maxHeartbeats 8000000 in
set_option maxRecDepth 100000 in
theorem sorts_short (ao : Option Addr) (len cap b off : Nat) (z : List Int) (w : World) (hz : InRow .i64 w ao len b off z) (hl : len ≤ 300) :
    Calls Try.prog 3 #[.slice ao len cap] w (RetB (.bool true) w) := by
  have HZ := Lib.hid hz
  clear hz
  have hd300 : decide (300 < (len : Int)) = false := by simp; omega
  go_enter Try.func3, Try.ntmps3
  go_wp2_with fail
  with_reducible refine (filled04 ao len cap b off z false w HZ.out hl).mono ?_
  rintro e w1 ⟨hb1, hb, g, ho, hf, rfl⟩
  have HO := Lib.hid ho
  have HB := Lib.hid hb1
  have HF := Lib.hid hf
  clear ho hb1 hf
  go_wp2_with (at_make; refine wpList_makeB 4 (.bool false) 1 Try.underlying26 Try.infoBool rfl _ _ _ _ 300 rfl rfl rfl rfl (by omega) (by unfold maxLen; omega) ?_; intro w2 B2 hb2)
  have hlt := HO.out.rep.foot_lt
  have hsz1 := HB.out.size
  have hsz2 := hb2.size
  have HR : Hid (SortsRel z w hb w1.heap.size w2.heap.size 0 g (w2.alloc (.cells #[.int .i64 0, .int .i64 0] 28))) := by
    refine ⟨?_, HF.out, (HB.out.trans (hb2.mono hsz1)).alloc (by omega) _, ?_, Blk.new _ _ _, fun hh => ?_, fun hh => ?_, ?_, by omega, by omega⟩
    · exact (HO.out.below hb2).below ((Below.refl _ _).alloc (Nat.le_refl _) _)
    · rw [seenRow_zero]; exact B2.alloc _
    · have := hlt _ hh; omega
    · have := hlt _ hh; omega
    · have := B2.lt; omega
  clear HO HB HF hlt B2 hb2
  go_wp2_with fail
  generalize World.alloc w2 _ = W at HR ⊢
  generalize w1.heap.size = sb at *
  generalize w2.heap.size = lb at *
  clear hsz1 hsz2
  have hLl : (sortE (pairs z)).length = len := by rw [sortE_pairs_length, HZ.out.size]
  have HLl := Lib.hid hLl
  clear hLl
  go_loopw [6] (fun s wr => ∃ (k : Nat) (g : HG), k ≤ len ∧ s = .int .i64 k ∧ SortsRel z w hb sb lb k g wr) (fun s _ => len - (intOf s).toNat)
  case atStart => exact ⟨0, g, by omega, rfl, HR.out⟩
  case round =>
    clear HR
    obtain ⟨k, g, hk, rfl, hr⟩ := hrel
    by_cases hlt : k < len
    · have hkL : k < (sortE (pairs z)).length := by rw [HLl.out]; exact hlt
      obtain rfl := HZ.out.adr (by omega)
      obtain ⟨i, hi, hx⟩ := sortE_pairs_at z k hkL
      have hd := drop_ent k hkL
      rw [hx] at hd
      have ho := hr.obj
      rw [hd] at ho
      have hiL : i < len := by rw [← HZ.out.size]; exact hi
      have hc := HZ.out.cell i hiL
      have hbl := HZ.out.lt (by omega)
      have hsn := seenB_new z k i hkL (by rw [hx])
      have HSR := Lib.hid hr
      have HX := Lib.hid hx
      have HO := Lib.hid ho
      have hcc := Lib.hid hc
      clear hr hd ho hx hc
      generalize hxv : z.getD i 0 = xk at *
      go_wp2_with fail
      with_reducible refine (pop_some wr hb 300 _ _ g HO.out).mono ?_
      rintro e w3 ⟨rfl, g3, ho3, hm3, hf3⟩
      have hszr := HSR.out.bel.size
      have hsz3 := hm3.size
      have nf3 : ∀ x, ¬ g.foot x → x < wr.heap.size → ¬ g3.foot x := fun x hx hlt hh => by
        rcases hf3 x hh with a | a
        · exact hx a
        · omega
      have BS := HSR.out.seen.mod hm3 HSR.out.ns
      have BL := HSR.out.last.mod hm3 HSR.out.nl
      have NS := Lib.hid (nf3 sb HSR.out.ns HSR.out.seen.lt)
      have NL := Lib.hid (nf3 lb HSR.out.nl HSR.out.last.lt)
      have hbel3 : Below w.heap.size w w3 := HSR.out.bel.trans (hm3.below hszr HSR.out.foot)
      have HF3 : Hid (∀ x, g3.foot x → w.heap.size ≤ x) := fun x hx => by
        rcases hf3 x hx with a | a
        · exact HSR.out.foot x a
        · omega
      have hci : w3.cell? ⟨b, off + i, none⟩ = some (.int .i64 xk) := (hbel3.cell hbl).trans hcc.out
      have HBEL := Lib.hid (hbel3.alloc hbel3.size (.cells #[.int .i64 (i : Int), .int .i64 xk] 28))
      have HO3 := Lib.hid (ho3.below ((Below.refl _ _).alloc (Nat.le_refl _) (.cells #[.int .i64 (i : Int), .int .i64 xk] 28)))
      have hci4 : (w3.alloc (.cells #[.int .i64 (i : Int), .int .i64 xk] 28)).cell? ⟨b, off + i, none⟩ = some (.int .i64 xk) := by
        rw [World.cell?_alloc_lt _ _ _ (World.block_lt_of_cell? w3 _ hci)]; exact hci
      have BX4 := Blk.new w3 28 [.int .i64 (i : Int), .int .i64 xk]
      have BS4 := BS.alloc (.cells #[.int .i64 (i : Int), .int .i64 xk] 28)
      have BL4 := BL.alloc (.cells #[.int .i64 (i : Int), .int .i64 xk] 28)
      have HBX := Lib.hid BX4
      have HBS := Lib.hid BS4
      have HBL := Lib.hid BL4
      have hne1 : w3.heap.size ≠ sb := by have := BS.lt; omega
      have hne2 : w3.heap.size ≠ lb := by have := BL.lt; omega
      have x0 := BX4.cell (i := 0) rfl
      have x1 := BX4.cell (i := 1) rfl
      have s0 := BS4.cell (seenRow_get _ k i (by omega))
      rw [hsn] at s0
      clear ho3 hm3 hf3 BS BL hci hbel3 BX4 BS4 BL4
      go_wp2_with fail
      generalize w3.alloc (.cells #[.int .i64 (i : Int), .int .i64 xk] 28) = W4 at *
      have t1 : decide ((i : Int) < 0) = false := by simp
      have t2 : decide ((len : Int) ≤ (i : Int)) = false := by simp; omega
      have t3 : (i : Int) < 300 := by omega
      have t4 : (i : Int) < (len : Int) := by omega
      go_quiet (fail)
      obtain ⟨W5, hW5⟩ : ∃ W5, W5 = W4.drewN nq := ⟨_, rfl⟩
      rw [← hW5]
      have BX := HBX.out.drewN nq
      have BS := HBS.out.drewN nq
      have BL := HBL.out.drewN nq
      have HO5 : Hid (HObj W5 hb 300 (List.drop (k + 1) (sortE (pairs z))) g3) := by rw [hW5]; exact HO3.out.mod ((Mod.refl (fun _ => False) _).drewN _) (fun _ _ h => h)
      have HBEL5 : Hid (Below w.heap.size w W5) := by rw [hW5]; exact bel_drewN HBEL.out _
      rw [← hW5] at BX BS BL
      clear hW5 x0 x1 s0 hci4 HBX HBS HBL HO3 HBEL
      have BS6 := BS.set i (.bool true)
      have BX6 := BX.other ⟨sb, i, none⟩ (.bool true) hne1
      have BL6 := BL.other ⟨sb, i, none⟩ (.bool true) HSR.out.ne.symm
      rw [seenRow_set _ k i hkL (by rw [HX.out])] at BS6
      have BS7 := (BS6.other ⟨lb, 0, none⟩ (.int .i64 (i : Int)) HSR.out.ne).other ⟨lb, 1, none⟩ (.int .i64 xk) HSR.out.ne
      have BL7 := (BL6.set 0 (.int .i64 (i : Int))).set 1 (.int .i64 xk)
      have x0 := BX.cell (i := 0) rfl
      have x1 := BX.cell (i := 1) rfl
      have l0 := BL.cell (i := 0) rfl
      have l1 := BL.cell (i := 1) rfl
      have s0 := BS.cell (seenRow_get _ k i (by omega))
      have sf := BS.free i
      have x06 := BX6.cell (i := 0) rfl
      have x16 := BX6.cell (i := 1) rfl
      have l06 := BL6.cell (i := 0) rfl
      have l16 := BL6.cell (i := 1) rfl
      have lf0 := BL6.free 0
      have lf1 := BL6.free 1
      have FIN : Hid (SortsRel z w hb sb lb (k + 1) g3 (((W5.setCell ⟨sb, i, none⟩ (.bool true)).setCell ⟨lb, 0, none⟩ (.int .i64 (i : Int))).setCell ⟨lb, 1, none⟩ (.int .i64 xk))) := by
        refine ⟨?_, HF3.out, ?_, BS7, ?_, NS.out, NL.out, HSR.out.ne, HSR.out.hsb, HSR.out.hlb⟩
        · refine HO5.out.mod (F := fun x => x = sb ∨ x = lb) ((((Mod.refl _ _).setCell _ (fun _ => .inl rfl) _).setCell _ (fun _ => .inr rfl) _).setCell _ (fun _ => .inr rfl) _) ?_
          rintro x hx (rfl | rfl)
          · exact NS.out hx
          · exact NL.out hx
        · exact ((HBEL5.out.setCell HSR.out.hsb _).setCell HSR.out.hlb _).setCell HSR.out.hlb _
        · rw [lastE_succ, HX.out]; exact BL7
      clear BS BX BL BS6 BX6 BL6 BS7 BL7
      have HS1 : Hid (0 < k → elt (lastE (sortE (pairs z)) k) ((i : Int), xk)) := fun h0 => by
        have := lastE_lt (sortE_sorted (pairs_nodup z)) k hkL h0
        rw [HX.out] at this
        exact this
      generalize lastE (sortE (pairs z)) k = le at *
      by_cases hk0 : 0 < k
      · have hlt2 := HS1.out hk0
        unfold elt at hlt2
        simp only at hlt2
        have u1 : decide ((0 : Int) < (k : Int)) = true := by simp; omega
        have u2 : decide (xk < le.2) = false := by simp; omega
        by_cases hke : xk = le.2
        · have u3 : (xk == le.2) = true := by simp [hke]
          have u4 : decide ((i : Int) < le.1) = false := by simp; omega
          clear hke hlt2
          go_wp2_with fail
          go_roundw
          case rel => exact ⟨k + 1, g3, by omega, by go_num, FIN.out⟩
          case measure => simp [intOf]; omega
        · have u3 : (xk == le.2) = false := by simp [hke]
          clear hke hlt2
          go_wp2_with fail
          go_roundw
          case rel => exact ⟨k + 1, g3, by omega, by go_num, FIN.out⟩
          case measure => simp [intOf]; omega
      · have u1 : decide ((0 : Int) < (k : Int)) = false := by simp; omega
        go_wp2_with fail
        go_roundw
        case rel => exact ⟨k + 1, g3, by omega, by go_num, FIN.out⟩
        case measure => simp [intOf]; omega
    · obtain rfl : k = len := by omega
      have ho := hr.obj
      rw [List.drop_of_length_le (by rw [HLl.out]; omega)] at ho
      have HO := Lib.hid ho
      have HBB := Lib.hid hr.bel
      clear ho hr
      go_wp2_with fail
      with_reducible refine (pop_empty wr hb 300 g HO.out).mono ?_
      rintro e w3 ⟨rfl, hb3⟩
      have HO3 := Lib.hid (HO.out.below hb3)
      have HB3 := Lib.hid (HBB.out.trans (hb3.mono HBB.out.size))
      clear hb3
      go_wp2_with fail
      with_reducible refine (len_ok _ hb 300 [] g (HO3.out.below ((Below.refl _ _).alloc (Nat.le_refl _) _))).mono ?_
      rintro e w4 ⟨rfl, rfl⟩
      have HB4 := Lib.hid (HB3.out.alloc HB3.out.size (.cells #[.int .i64 0, .int .i64 0] 28))
      go_wp2_with fail
      generalize w3.alloc (.cells #[.int .i64 0, .int .i64 0] 28) = W4 at *
      with_reducible refine (works04 _).mono ?_
      rintro e w5 ⟨rfl, hb5⟩
      have HB5 := Lib.hid (HB4.out.trans (hb5.mono HB4.out.size))
      clear hb5
      go_wp2_with fail
      go_ret
      exact ⟨rfl, HB5.out⟩

end Go.Proofs.Ytebclbpibafkdaa
