/- ExpiryKeeps: the walk. -/
import Derived.Test.YtebclbpibafkdaaEndsW
import Derived.Test.YtebclbpibafkdaaHeapSortsW
import Derived.Test.YtebclbpibafkdaaDueP
namespace Go.Proofs.Ytebclbpibafkdaa
set_option linter.unusedVariables false
set_option linter.unusedSimpArgs false
open Go.RowKit

set_option maxHeartbeats 4000000 in
set_option maxRecDepth 100000 in
theorem keeps_long (ao : Option Addr) (len cap : Nat) (now : Int) (w : World) (hl : 300 < len) (hm : len ≤ 9223372036854775807) :
    Calls Try.prog 9 #[.slice ao len cap, .int .i64 now] w (RetB (.bool true) w) := by
  go_enter Try.func9, Try.ntmps9
  go_wp2_with fail
  with_reducible refine (works35 _).mono ?_
  rintro e w' ⟨rfl, hb⟩
  have HB := Lib.hid hb
  clear hb
  go_wp2_with fail
  go_ret
  exact ⟨rfl, HB.out⟩

theorem IntSl.of_due {w : World} {v : Value} {S : List Ent} {N : Nat} (hN : N ≤ S.length) (h : w.ownsRow 0 3 1 v N ((S.take N).map fun e => .int .i64 e.1)) : IntSl w v ((S.take N).map (·.1)) := by
  have hl : ((S.take N).map (·.1)).length = N := by simp; omega
  have h2 : w.ownsRow 0 3 1 v ((S.take N).map (·.1)).length (((S.take N).map (·.1)).map fun x => .int .i64 x) := by
    rw [hl, List.map_map]; exact h
  exact IntSl.of_owns h2

theorem IntSl.below {w w' : World} {v : Value} {z : List Int} (h : IntSl w v z) (hb : Below w.heap.size w w') : IntSl w' v z := by
  refine ⟨h.frm, fun ao cap hv hl => ?_⟩
  obtain ⟨b, hb1, hc⟩ := h.cell ao cap hv hl
  exact ⟨b, hb1, fun i hi => (hb.cell (World.block_lt_of_cell? w _ (hc i hi))).trans (hc i hi)⟩

structure KeepsRel (w2 : World) (db : Nat) (row : List Value) (wr : World) : Prop where
  bel : Below w2.heap.size w2 wr
  due : Blk wr db 4 row

theorem take_fst_at {S : List Ent} {N k : Nat} (hk : k < N) (hN : N ≤ S.length) : ((S.take N).map (·.1)).getD k 0 = (ent S k).1 := by
  rw [ent_eq (by omega)]
  simp [List.getD_eq_getElem?_getD, hk, show k < S.length by omega]

set_option maxHeartbeats 8000000 in
set_option maxRecDepth 100000 in
theorem keeps_short (ao : Option Addr) (len cap b off : Nat) (z : List Int) (now : Int) (w : World) (hz : InRow .i64 w ao len b off z) (hl : len ≤ 300) (hwz : ∀ x ∈ z, I64 x) :
    Calls Try.prog 9 #[.slice ao len cap, .int .i64 now] w (RetB (.bool true) w) := by
  have HZ := Lib.hid hz
  have HWZ := Lib.hid hwz
  clear hz hwz
  have hd300 : decide (300 < (len : Int)) = false := by simp; omega
  go_enter Try.func9, Try.ntmps9
  go_wp2_with fail
  with_reducible refine (filled35 ao len cap b off z true w HZ.out hl).mono ?_
  rintro e w1 ⟨s, q, g, hf, rfl⟩
  have F := Lib.hid hf
  clear hf
  go_wp2_with fail
  with_reducible refine (edue_ok w1 s 300 _ q g F.out.obj now).mono ?_
  rintro e w2 ⟨v, g2, rfl, ho, hrow, hm, hf, hv⟩
  have HLN : Hid (dueN (sortE (pairs z)) now ≤ len) := by
    have := dueN_le (sortE (pairs z)) now
    rw [sortE_pairs_length, HZ.out.size] at this
    exact this
  have hNS := dueN_le (sortE (pairs z)) now
  have HI := Lib.hid (IntSl.of_due hNS hrow)
  have F2 := Lib.hid (F.out.step ho hm hf)
  obtain ⟨vo, vc, rfl⟩ := owns_slice hrow
  clear ho hm hf hrow F hv
  have HSN := Lib.hid (seen_due z now)
  have HDL := Lib.hid (due_left z now)
  have HDG := Lib.hid (due_gone z now)
  obtain ⟨N, hN⟩ : ∃ N, N = dueN (sortE (pairs z)) now := ⟨_, rfl⟩
  rw [← hN] at HI F2 HLN HSN HDL HDG hNS ⊢
  have HNS := Lib.hid hNS
  have hNl : N ≤ len := HLN.out
  clear hN hNS HLN
  go_wp2_with (at_make; refine wpList_makeB 4 (.bool false) 1 Try.underlying26 Try.infoBool rfl _ _ _ _ 300 rfl rfl rfl rfl (by omega) (by unfold maxLen; omega) ?_; intro w3 B3 hb3)
  have KR : Hid (KeepsRel w2 w2.heap.size (seenRow (sortE (pairs z)) 0) w3) := ⟨hb3, by rw [seenRow_zero]; exact B3⟩
  obtain ⟨db, hdb⟩ : ∃ db, db = w2.heap.size := ⟨_, rfl⟩
  have HDB := Lib.hid hdb
  rw [← hdb] at KR ⊢
  clear B3 hb3 hdb
  go_wp2_with fail
  go_loopw [28] (fun s1 wr => ∃ k : Nat, k ≤ N ∧ s1 = .int .i64 k ∧ KeepsRel w2 db (seenRow (sortE (pairs z)) k) wr) (fun s1 _ => N - (intOf s1).toNat)
  case atStart => exact ⟨0, by omega, rfl, KR.out⟩
  case round =>
    clear KR
    obtain ⟨k, hk, rfl, hr⟩ := hrel
    by_cases hlt : k < N
    · have hkL : k < (sortE (pairs z)).length := by have := HNS.out; omega
      obtain ⟨i, hi, hx⟩ := sortE_pairs_at z k hkL
      have hll : ((List.take N (sortE (pairs z))).map (·.1)).length = N := by simp only [List.length_map, List.length_take]; exact Nat.min_eq_left HNS.out
      obtain ⟨vb, rfl, hc⟩ := HI.out.cell vo vc (by rw [hll]) (by rw [hll]; omega)
      have hck := hc k (by rw [hll]; omega)
      rw [take_fst_at hlt HNS.out, hx] at hck
      have hck2 := (hr.bel.cell (World.block_lt_of_cell? w2 _ hck)).trans hck
      have hi300 : i < 300 := by have := HZ.out.size; omega
      have s0 := hr.due.cell (seenRow_get _ k i hi300)
      have sf := hr.due.free i
      have bs := hr.due.set i (.bool true)
      rw [seenRow_set _ k i hkL (by rw [hx])] at bs
      have KR : Hid (KeepsRel w2 db (seenRow (sortE (pairs z)) (k + 1)) (wr.setCell ⟨db, i, none⟩ (.bool true))) := ⟨hr.bel.setCell (by show _ ≤ db; rw [HDB.out]; exact Nat.le_refl _) _, bs⟩
      clear hc hck hx hr bs hll
      have t1 : decide ((i : Int) < 0) = false := by simp
      have t2 : decide (300 ≤ (i : Int)) = false := by simp; omega
      go_wp2_with fail
      go_roundw
      case rel => exact ⟨k + 1, by omega, by go_num, KR.out⟩
      case measure => simp [intOf]; omega
    · obtain rfl : k = N := by omega
      have KR := Lib.hid hr
      clear hr
      go_wp2_with fail
      go_loopw [44] (fun s1 wr => ∃ k' : Nat, k' ≤ len ∧ s1 = .int .i64 k' ∧ KeepsRel w2 db (seenRow (sortE (pairs z)) k) wr) (fun s1 _ => len - (intOf s1).toNat)
      case atStart => exact ⟨0, by omega, rfl, KR.out⟩
      case round =>
        clear KR
        obtain ⟨i, hi, rfl, hr⟩ := hrel
        by_cases hlt2 : i < len
        · obtain rfl := HZ.out.adr (by omega)
          have hFR := F2.out.below hr.bel
          have hc := (hFR.bel.cell (p := ⟨b, off + i, none⟩) (HZ.out.lt (by omega))).trans (HZ.out.cell i hlt2)
          have hiz : i < z.length := by rw [HZ.out.size]; exact hlt2
          have s0 := hr.due.cell (seenRow_get (sortE (pairs z)) k i (by omega))
          rw [HSN.out i hiz] at s0
          have HDLi := Lib.hid (HDL.out i hiz)
          have HDGi := Lib.hid (HDG.out i)
          have HXI : Hid (I64 (z.getD i 0)) := HWZ.out _ (by rw [List.getD_eq_getElem?_getD, List.getElem?_eq_getElem hiz]; exact List.getElem_mem hiz)
          have FR := Lib.hid hFR
          have KR := Lib.hid hr
          clear hr hFR
          generalize z.getD i 0 = x at hc s0 HDLi HDGi HXI
          by_cases hd : x ≤ now
          · have t3 : decide (x ≤ now) = true := decide_eq_true hd
            rw [t3] at s0
            have hno := Lib.hid (HDGi.out hd)
            clear hd
            go_wp2_with fail
            with_reducible refine (eleft_none wr s 300 _ q g2 FR.out.obj i 0 (by omega) hno.out).mono ?_
            rintro e w4 ⟨rfl, hb4⟩
            have KR2 : Hid (KeepsRel w2 db (seenRow (sortE (pairs z)) k) w4) := ⟨KR.out.bel.trans (hb4.mono KR.out.bel.size), KR.out.due.below hb4 KR.out.due.lt⟩
            have s1 := (hb4.cell (World.block_lt_of_cell? wr _ s0)).trans s0
            have FR2 := Lib.hid (FR.out.below hb4)
            clear hb4 s0 KR FR hc
            go_wp2_with fail
            with_reducible refine (edrop_none w4 s 300 _ q g2 FR2.out.obj i (by omega) hno.out).mono ?_
            rintro e w5 ⟨rfl, hb5⟩
            have KR3 : Hid (KeepsRel w2 db (seenRow (sortE (pairs z)) k) w5) := ⟨KR2.out.bel.trans (hb5.mono KR2.out.bel.size), KR2.out.due.below hb5 KR2.out.due.lt⟩
            have s2 := (hb5.cell (World.block_lt_of_cell? w4 _ s1)).trans s1
            clear hb5 s1 KR2 FR2
            go_wp2_with fail
            go_roundw
            case rel => exact ⟨i + 1, by omega, by go_num, KR3.out⟩
            case measure => simp [intOf]; omega
          · have t3 : decide (x ≤ now) = false := decide_eq_false hd
            rw [t3] at s0
            have hyes := Lib.hid (HDLi.out (by omega))
            clear hd
            go_wp2_with fail
            have hleft := eleft_some wr s 300 _ q g2 FR.out.obj i 0 (by omega) x hyes.out x 0 (fun W => by have := sub_fits x 0 W HXI.out ⟨by omega, by omega⟩ (by simpa using HXI.out); simpa using this) (fun h => absurd rfl h)
            with_reducible refine hleft.mono ?_
            rintro e w4 ⟨rfl, hb4⟩
            have KR3 : Hid (KeepsRel w2 db (seenRow (sortE (pairs z)) k) w4) := ⟨KR.out.bel.trans (hb4.mono KR.out.bel.size), KR.out.due.below hb4 KR.out.due.lt⟩
            have s1 := (hb4.cell (World.block_lt_of_cell? wr _ s0)).trans s0
            clear hleft hb4 s0 KR FR hc
            by_cases hx : -9223372036854775808 < x
            · have t4 : decide (-9223372036854775808 < x) = true := decide_eq_true hx
              go_wp2_with fail
              go_roundw
              case rel => exact ⟨i + 1, by omega, by go_num, KR3.out⟩
              case measure => simp [intOf]; omega
            · have t4 : decide (-9223372036854775808 < x) = false := decide_eq_false hx
              go_wp2_with fail
              go_roundw
              case rel => exact ⟨i + 1, by omega, by go_num, KR3.out⟩
              case measure => simp [intOf]; omega
        · obtain rfl : i = len := by omega
          have FR := Lib.hid (F2.out.below hr.bel)
          have hlen : ((sortE (pairs z)).drop k).length = i - k := by rw [List.length_drop, sortE_pairs_length, HZ.out.size]
          clear hr
          go_wp2_with fail
          with_reducible refine (elen_ok wr s 300 _ q g2 FR.out.obj).mono ?_
          rintro e w4 ⟨rfl, rfl⟩
          rw [hlen]
          have t5 : (((i - k : Nat) : Int) == (i : Int) - (k : Int)) = true := by simp; omega
          go_wp2_with fail
          with_reducible refine (works35 _).mono ?_
          rintro e w5 ⟨rfl, hb5⟩
          have HB5 := Lib.hid (FR.out.bel.trans (hb5.mono FR.out.bel.size))
          clear hb5
          go_wp2_with fail
          go_ret
          exact ⟨rfl, HB5.out⟩

end Go.Proofs.Ytebclbpibafkdaa
