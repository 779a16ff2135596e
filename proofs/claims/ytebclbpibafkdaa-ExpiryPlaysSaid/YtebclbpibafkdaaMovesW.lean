/- ExpiryMoves: the walk. -/
import Derived.Test.YtebclbpibafkdaaMovesP
import Derived.Test.YtebclbpibafkdaaTwiceW
namespace Go.Proofs.Ytebclbpibafkdaa
set_option linter.unusedVariables false
set_option linter.unusedSimpArgs false
open Go.RowKit

theorem Try.infoInt64 : (Try.prog.info? 2).map (fun i => (i.zero, i.size, i.bytes)) = some (some (.int .i64 0), 1, 8) := by kernel_rfl

theorem InRow.of_owns {w : World} {e : TypeId} {v : Value} {z : List Int} (h : w.ownsRow 0 e 1 v z.length (z.map fun x => .int .i64 x)) :
    ∃ ao cap b, v = .slice ao z.length cap ∧ InRow .i64 w ao z.length b 0 z ∧ (0 < z.length → z.length ≤ cap ∧ cap ≤ maxLen) := by
  obtain ⟨ao, cap, rfl⟩ := owns_slice h
  by_cases hn : 0 < z.length
  · obtain ⟨g, cap', hv, h1, h2, h3, h4, _⟩ := owns_form h hn
    injection hv with e1 _ e3
    subst e1; subst e3
    refine ⟨_, _, g, rfl, ⟨rfl, fun _ => rfl, fun i hi => ?_⟩, fun _ => ⟨h1, h2⟩⟩
    rw [Nat.zero_add, h4 i (by omega)]
    simp [hi]
  · exact ⟨_, _, 0, rfl, ⟨rfl, fun h => absurd h hn, fun i hi => by omega⟩, fun h => absurd h hn⟩

theorem i32_of {a : Int} (h : (Lit.int .i32 a).wf = true) : -2147483648 ≤ a ∧ a ≤ 2147483647 := by
  simp [Lit.wf, IntKind.min, IntKind.max, IntKind.signed, IntKind.bits] at h
  exact ⟨by omega, by omega⟩

/-- Two rows that were made since w. -/
structure MRows (w : World) (y z : List Int) (u v : Value) (W : World) : Prop where
  a : W.ownsRow 0 2 1 u y.length (y.map fun x => .int .i64 x)
  b : W.ownsRow 0 2 1 v z.length (z.map fun x => .int .i64 x)
  bel : Below w.heap.size w W
  na : ∀ k, u.ownBlock = some k → w.heap.size ≤ k
  nb : ∀ k, v.ownBlock = some k → w.heap.size ≤ k
  ap : ∀ k, u.ownBlock = some k → v.ownBlock ≠ some k

theorem MRows.swap {w : World} {y z : List Int} {u v : Value} {W : World} (h : MRows w y z u v W) : MRows w z y v u W :=
  ⟨h.b, h.a, h.bel, h.nb, h.na, fun k hk e => h.ap k e hk⟩

theorem MRows.below {w : World} {y z : List Int} {u v : Value} {W W' : World} (h : MRows w y z u v W) (k : Below W.heap.size W W') : MRows w y z u v W' :=
  ⟨owns_same h.a (fun x hx => k.block x (h.a.lt x hx).2), owns_same h.b (fun x hx => k.block x (h.b.lt x hx).2), h.bel.trans (k.mono h.bel.size), h.na, h.nb, h.ap⟩

theorem MRows.more {w : World} {y z : List Int} {u v : Value} {W W1 W2 : World} (h : MRows w y z u v W) (hb : Below W.heap.size W W1) {x : Int} {u' : Value}
    (ho : W2.ownsRow 0 2 1 u' (y.length + 1) (y.map (fun x => .int .i64 x) ++ [.int .i64 x])) (hg : W1.grownBy W2 u.ownBlock) (hk : ∀ k, u'.ownBlock = some k → u.ownBlock = some k ∨ W1.heap.size ≤ k) :
    MRows w (y ++ [x]) z u' v W2 := by
  have h1 := h.below hb
  have hs := h.bel.size
  have hs1 := hb.size
  refine ⟨?_, owns_same h1.b (fun k e => hg.block k (h1.b.lt k e).2 (fun e' => h.ap k e'.symm e)), ?_, fun k e => ?_, h.nb, fun k e e' => ?_⟩
  · rw [List.length_append, List.map_append]; exact ho
  · exact h1.bel.trans (grown_below hg h.na (by omega))
  · rcases hk k e with h2 | h2
    · exact h.na k h2
    · omega
  · rcases hk k e with h2 | h2
    · exact h.ap k h2 e'
    · have := (h.b.lt k e').2; omega

set_option maxHeartbeats 4000000 in
set_option maxRecDepth 100000 in
theorem moves_long (ao : Option Addr) (len cap : Nat) (x y : Int) (w : World) (hl : 300 < len) (hm : len ≤ 9223372036854775807) :
    Calls Try.prog 4 #[.slice ao len cap, .int .i32 x, .int .i32 y] w (RetB (.bool true) w) := by
  go_enter Try.func4, Try.ntmps4
  go_wp2_with fail
  with_reducible refine (works35 _).mono ?_
  rintro e w' ⟨rfl, hb⟩
  have HB := Lib.hid hb
  clear hb
  go_wp2_with fail
  go_ret
  exact ⟨rfl, HB.out⟩

set_option maxHeartbeats 8000000 in
set_option maxRecDepth 100000 in
theorem moves_short (ao : Option Addr) (len cap b off : Nat) (z : List Int) (c now : Int) (w : World) (hz : InRow .i32 w ao len b off z) (hl : len ≤ 300)
    (hc1 : -2147483648 ≤ c) (hc2 : c ≤ 2147483647) (hn1 : -2147483648 ≤ now) (hn2 : now ≤ 2147483647) (hzz : ∀ x ∈ z, -2147483648 ≤ x ∧ x ≤ 2147483647) :
    Calls Try.prog 4 #[.slice ao len cap, .int .i32 c, .int .i32 now] w (RetB (.bool true) w) := by
  have HZ := Lib.hid hz
  have HZZ := Lib.hid hzz
  clear hz hzz
  have hd300 : decide (300 < (len : Int)) = false := by simp; omega
  go_enter Try.func4, Try.ntmps4
  go_wp2_with fail
  go_loopw [7, 8, 24] (fun s7 s8 s24 wr => ∃ k : Nat, k ≤ len ∧ s24 = .int .i64 k ∧ MRows w (z.take k) ((z.take k).map (· + c)) s7 s8 wr) (fun _ _ s24 _ => len - (intOf s24).toNat)
  case atStart => exact ⟨0, by omega, rfl, World.ownsRow_nil _ _ _ _, World.ownsRow_nil _ _ _ _, Below.refl _ _, by simp [Value.ownBlock], by simp [Value.ownBlock], by simp [Value.ownBlock]⟩
  case round =>
    obtain ⟨k, hk, rfl, hr⟩ := hrel
    by_cases hlt : k < len
    · obtain rfl := HZ.out.adr (by omega)
      have hzl := HZ.out.size
      have hc := (hr.bel.cell (p := ⟨b, off + k, none⟩) (HZ.out.lt (by omega))).trans (HZ.out.cell k hlt)
      have hmem : z.getD k 0 ∈ z := by rw [List.getD_eq_getElem?_getD, List.getElem?_eq_getElem (by omega)]; exact List.getElem_mem _
      obtain ⟨hx1, hx2⟩ := HZZ.out _ hmem
      have hT := take_succ_getD z k (by omega)
      have hT2 : (z.take (k + 1)).map (· + c) = (z.take k).map (· + c) ++ [z.getD k 0 + c] := by rw [hT, List.map_append]; rfl
      have HT := Lib.hid hT
      have HT2 := Lib.hid hT2
      clear hmem hT hT2
      generalize z.getD k 0 = x at hc hx1 hx2 HT HT2
      obtain ⟨o7, c7, rfl⟩ := owns_slice hr.a
      obtain ⟨o8, c8, rfl⟩ := owns_slice hr.b
      have hl1 : (z.take k).length ≤ 300 := by rw [List.length_take]; omega
      have hl2 : ((z.take k).map (· + c)).length ≤ 300 := by rw [List.length_map]; exact hl1
      have HR := Lib.hid hr
      clear hr hzl
      generalize (z.take k).map (· + c) = z2 at *
      generalize z.take k = z1 at *
      have hb1 : Below wr.heap.size wr (wr.alloc (.cells #[.int .i64 x] 2)) := (Below.refl _ _).alloc (Nat.le_refl _) _
      have HB1 := Lib.hid hb1
      have R1 := Lib.hid (HR.out.below hb1).a
      have hnews := Lib.hid (news_new wr 2 [.int .i64 x])
      clear hb1
      go_wp2_with (at_builtin; apply keepIt)
      apply Lib.hid
      with_reducible refine wpList_appendB 2 (.int .i64 0) 1 8 Try.underlying22 Try.infoInt64 rfl (by decide) (.slice o7 z1.length c7) z1.length _ rfl R1.out ⟨wr.heap.size, 0, none⟩ 1 1 [.int .i64 x] rfl rfl hnews.out (by simp [Value.oneCell']) (by unfold maxLen; omega) (by omega) ?_
      intro v2 w2 ho hg hk2
      have R2 := Lib.hid (HR.out.more HB1.out ho hg hk2).swap
      have hb3 : Below w2.heap.size w2 (w2.alloc (.cells #[.int .i64 (x + c)] 2)) := (Below.refl _ _).alloc (Nat.le_refl _) _
      have HB3 := Lib.hid hb3
      have R3 := Lib.hid (R2.out.below hb3).a
      have hnews2 := Lib.hid (news_new w2 2 [.int .i64 (x + c)])
      clear ho hg hk2 R1 hnews HB1 hc HR hb3
      go_wp2_with (at_builtin; apply keepIt)
      apply Lib.hid
      with_reducible refine wpList_appendB 2 (.int .i64 0) 1 8 Try.underlying22 Try.infoInt64 rfl (by decide) (.slice o8 z2.length c8) z2.length _ rfl R3.out ⟨w2.heap.size, 0, none⟩ 1 1 [.int .i64 (x + c)] rfl rfl hnews2.out (by simp [Value.oneCell']) (by unfold maxLen; omega) (by omega) ?_
      intro v4 w4 ho hg hk4
      have R4 := Lib.hid (R2.out.more HB3.out ho hg hk4).swap
      clear ho hg hk4 R2 R3 hnews2 HB3
      go_wp2_with fail
      go_roundw
      case rel => exact ⟨k + 1, by omega, by go_num, by rw [HT2.out, HT.out]; exact R4.out⟩
      case measure => simp [intOf]; omega
    · obtain rfl : k = len := by omega
      have hzl := HZ.out.size
      have hzt : z.take k = z := List.take_of_length_le (by omega)
      rw [hzt] at hr
      have hl1 : z.length ≤ 300 := by omega
      have hl2 : (z.map (· + c)).length ≤ 300 := by rw [List.length_map]; omega
      obtain ⟨o7, c7, b7, rfl, i7, m7⟩ := InRow.of_owns hr.a
      obtain ⟨o8, c8, b8, rfl, i8, _⟩ := InRow.of_owns hr.b
      have HLL : Hid (z.length = k) := Lib.hid hzl
      have I7 := Lib.hid i7
      rw [List.length_map] at i8
      have I8 := Lib.hid i8
      have M7 := Lib.hid m7
      have HB := Lib.hid hr.bel
      clear hr hzt hzl i7 i8 m7 HZ
      go_wp2_with fail
      with_reducible refine (filled35 o7 z.length c7 b7 0 z false wr I7.out hl1).mono ?_
      rintro e w1 ⟨s, q, g, hf, rfl⟩
      have F := Lib.hid hf
      have I71 := Lib.hid (I7.out.below hf.bel)
      have I81 := Lib.hid (I8.out.below hf.bel)
      clear hf I7 I8
      go_wp2_with fail
      with_reducible refine (filled35 o8 z.length c8 b8 0 (z.map (· + c)) false w1 I81.out hl1).mono ?_
      rintro e w2 ⟨t, r, gt, hf, rfl⟩
      have T2 := Lib.hid (Two.start F.out hf)
      have I72 := Lib.hid (I71.out.below hf.bel)
      have HB2 := Lib.hid (HB.out.trans (T2.out.a.bel.mono HB.out.size))
      clear hf F I71 I81
      go_wp2_with fail
      obtain ⟨wo, rfl⟩ : ∃ wo : World, wo = wr := ⟨_, rfl⟩
      go_loopw [54] (fun s54 wx => ∃ i : Nat, i ≤ z.length ∧ s54 = .int .i64 i ∧ Below w2.heap.size w2 wx) (fun s54 _ => z.length - (intOf s54).toNat)
      case atStart => exact ⟨0, by omega, rfl, Below.refl _ _⟩
      case round =>
        obtain ⟨i, hi, rfl, hbx⟩ := hrel
        obtain ⟨wx, rfl⟩ : ∃ wx : World, wx = wr := ⟨_, rfl⟩
        have TX := Lib.hid (T2.out.below hbx)
        have IX := Lib.hid (I72.out.below hbx)
        have HBX := Lib.hid hbx
        clear hbx
        by_cases hlt : i < z.length
        · obtain rfl := I72.out.adr (by omega)
          obtain ⟨hcc1, hcc2⟩ := M7.out (by omega)
          unfold maxLen at hcc2
          have hmem : z.getD i 0 ∈ z := by rw [List.getD_eq_getElem?_getD, List.getElem?_eq_getElem (by omega)]; exact List.getElem_mem _
          obtain ⟨hx1, hx2⟩ := HZZ.out _ hmem
          have M1 := Lib.hid (mem_sortP.2 ⟨i, hlt, rfl⟩ : ((i : Int), z.getD i 0) ∈ sortE (pairs z))
          have M2 : Hid (((i : Int), z.getD i 0 + c) ∈ sortE (pairs (z.map (· + c)))) := Lib.hid (mem_sortP.2 ⟨i, by simpa using hlt, by
            simp [List.getD_eq_getElem?_getD, List.getElem?_eq_getElem hlt]⟩)
          clear hmem
          have cx := IX.out.cell i hlt
          rw [Nat.zero_add] at cx
          generalize z.getD i 0 = x at hx1 hx2 M1 M2 cx
          go_wp2_with fail
          have hl1 := eleft_some wx s 300 _ q g TX.out.a.obj i now (by omega) x M1.out (x - now) 0 (fun W => sub_fits x now W ⟨by omega, by omega⟩ ⟨by omega, by omega⟩ ⟨by omega, by omega⟩) (fun h => absurd rfl h)
          with_reducible refine hl1.mono ?_
          clear hl1
          rintro e w4 ⟨rfl, hb4⟩
          have T4 := Lib.hid (TX.out.below hb4)
          have cx4 := (hb4.cell (World.block_lt_of_cell? wx _ cx)).trans cx
          have HB4 := Lib.hid (HBX.out.trans (hb4.mono HBX.out.size))
          clear hb4 TX cx IX HBX
          go_wp2_with fail
          have hl2 := eleft_some w4 t 300 _ r gt T4.out.b.obj i (now + c) (by omega) (x + c) M2.out (x - now) 0 (fun W => by
            have := sub_fits (x + c) (now + c) W ⟨by omega, by omega⟩ ⟨by omega, by omega⟩ ⟨by omega, by omega⟩
            rw [show x + c - (now + c) = x - now by omega] at this
            exact this) (fun h => absurd rfl h)
          with_reducible refine hl2.mono ?_
          clear hl2
          rintro e w5 ⟨rfl, hb5⟩
          have cx5 := (hb5.cell (World.block_lt_of_cell? w4 _ cx4)).trans cx4
          have HB5 := Lib.hid (HB4.out.trans (hb5.mono HB4.out.size))
          clear hb5 T4 cx4 HB4
          go_wp2_with fail
          go_roundw
          case rel => exact ⟨i + 1, by omega, by go_num, HB5.out⟩
          case measure => simp [intOf]; omega
        · have HBW := Lib.hid (HB2.out.trans (HBX.out.mono HB2.out.size))
          have HDUE := Lib.hid (moves_due z c now)
          have HL1 : Hid ((sortE (pairs z)).length ≤ 300) := Lib.hid (by rw [sortE_pairs_length]; exact hl1)
          have HSZ := Lib.hid HBX.out.size
          clear HBX IX I72 T2 M7 HZZ
          generalize sortE (pairs z) = S at *
          generalize sortE (pairs (z.map (· + c))) = T at *
          go_wp2_with fail
          with_reducible refine (edue_ok wx s 300 S q g TX.out.a.obj now).mono ?_
          rintro e w6 ⟨v6, g6, rfl, ho, hrow, hm, hf, hv⟩
          have T6 := Lib.hid (TX.out.step ho hm hf).swap
          have R6 := Lib.hid (RowX.due TX.out (dueN_le S now) hrow hv).swap
          clear ho hm hf hrow hv TX
          go_wp2_with fail
          with_reducible refine (edue_ok w6 t 300 T r gt T6.out.a.obj (now + c)).mono ?_
          rintro e w7 ⟨v7, g7, rfl, ho, hrow, hm, hf, hv⟩
          have T7 := Lib.hid (T6.out.step ho hm hf)
          have R7 := Lib.hid (R6.out.step hm hf)
          have Q7 := RowX.due T6.out (dueN_le T (now + c)) hrow hv
          rw [HDUE.out] at Q7
          have Q7 := Lib.hid Q7
          clear ho hm hf hrow hv T6 R6
          have HYL : Hid (((List.take (dueN S now) S).map (·.1)).length ≤ 1000000) := by have := HL1.out; exact Lib.hid (by simp; omega)
          go_wp2_with fail
          with_reducible refine (same35 w7 v6 v7 _ _ R7.out.sl Q7.out.sl HYL.out HYL.out).mono ?_
          rintro e w8 ⟨rfl, hb8⟩
          have T8 := Lib.hid (T7.out.below hb8)
          have hsm : sameB ((List.take (dueN S now) S).map (·.1)) ((List.take (dueN S now) S).map (·.1)) = true := by simp [sameB]
          rw [hsm]
          clear hb8 T7 R7 Q7 HYL hsm
          go_wp2_with fail
          with_reducible refine (works35 _).mono ?_
          rintro e w9 ⟨rfl, hb9⟩
          have HB9 := Lib.hid (T8.out.a.bel.trans (hb9.mono T8.out.a.bel.size))
          clear hb9 T8
          go_wp2_with fail
          go_ret
          exact ⟨rfl, HB.out.trans (HB9.out.mono HB.out.size)⟩

end Go.Proofs.Ytebclbpibafkdaa
