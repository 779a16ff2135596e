/- The statements' example and filled schedule of layer 35. -/
import Derived.Test.YtebclbpibafkdaaExpL
namespace Go.Proofs.Ytebclbpibafkdaa
set_option linter.unusedVariables false
set_option linter.unusedSimpArgs false
open Go.RowKit

theorem eset_okI (w : World) (s slots : Nat) (S : List Ent) (q : Nat) (g : HG) (h : EObj w s slots S q g) (iv at' : Int) (slot : Nat) (hiv : iv = (slot : Int)) (hs : slot < slots) :
    Calls Try.prog 37 #[.pointer (some ⟨s, 0, none⟩), .int .i64 iv, .int .i64 at'] w (EDone (.int .i64 0) w s slots (ins ((slot : Int), at') (del (slot : Int) S)) q g) := by
  subst hiv; exact eset_ok w s slots S q g h slot at' hs

/-- A schedule that was made since w. -/
structure EFresh (w : World) (s slots : Nat) (S : List Ent) (q : Nat) (g : HG) (W : World) : Prop where
  obj : EObj W s slots S q g
  bel : Below w.heap.size w W
  foot : ∀ k, g.foot k → w.heap.size ≤ k
  hs : w.heap.size ≤ s

theorem EFresh.step {w : World} {s slots : Nat} {S : List Ent} {q : Nat} {g : HG} {W : World} (h : EFresh w s slots S q g W) {S' : List Ent} {g' : HG} {W' : World}
    (ho : EObj W' s slots S' q g') (hm : Mod g.foot W W') (hf : ∀ k, g'.foot k → g.foot k ∨ W.heap.size ≤ k) : EFresh w s slots S' q g' W' := by
  have hsz := h.bel.size
  refine ⟨ho, h.bel.trans (hm.below hsz h.foot), fun k hk => ?_, h.hs⟩
  rcases hf k hk with a | a
  · exact h.foot k a
  · omega

theorem EFresh.below {w : World} {s slots : Nat} {S : List Ent} {q : Nat} {g : HG} {W W' : World} (h : EFresh w s slots S q g W) (k : Below W.heap.size W W') : EFresh w s slots S q g W' :=
  ⟨h.obj.below k, h.bel.trans (k.mono h.bel.size), h.foot, h.hs⟩

set_option maxHeartbeats 4000000 in
set_option maxRecDepth 100000 in
theorem works35 (w : World) : Calls Try.prog 25 #[] w (RetB (.bool true) w) := by
  go_enter Try.func25, Try.ntmps25
  go_wp2_with fail
  refine (enew_ok 4 w (by omega)).mono ?_
  rintro e w1 ⟨hb1, s, q, g1, ho, hf, hs, rfl⟩
  have F1 := Lib.hid (EFresh.mk ho hb1 hf hs)
  clear ho hb1 hf hs
  go_wp2_with fail
  with_reducible refine (eset_okI w1 s 4 [] q g1 F1.out.obj 2 10 2 rfl (by omega)).mono ?_
  rintro e w2 ⟨rfl, g2, ho, hm, hf⟩
  have F2 := Lib.hid (F1.out.step ho hm hf)
  clear ho hm hf
  go_wp2_with fail
  with_reducible refine (eset_okI w2 s 4 _ q g2 F2.out.obj 0 10 0 rfl (by omega)).mono ?_
  rintro e w3 ⟨rfl, g3, ho, hm, hf⟩
  have F3 := Lib.hid (F2.out.step ho hm hf)
  clear ho hm hf
  go_wp2_with fail
  with_reducible refine (eset_okI w3 s 4 _ q g3 F3.out.obj 1 (-5) 1 rfl (by omega)).mono ?_
  rintro e w4 ⟨rfl, g4, ho, hm, hf⟩
  have F4 := Lib.hid (F3.out.step ho hm hf)
  clear ho hm hf
  go_wp2_with fail
  with_reducible refine (eset_okI w4 s 4 _ q g4 F4.out.obj 3 40 3 rfl (by omega)).mono ?_
  rintro e w5 ⟨rfl, g5, ho, hm, hf⟩
  have F5 := F4.out.step ho hm hf
  have hS : ins (((3 : Nat) : Int), 40) (del ((3 : Nat) : Int) (ins (((1 : Nat) : Int), -5) (del ((1 : Nat) : Int) (ins (((0 : Nat) : Int), 10) (del ((0 : Nat) : Int) (ins (((2 : Nat) : Int), 10) (del ((2 : Nat) : Int) []))))))) = [(1, -5), (0, 10), (2, 10), (3, 40)] := by decide
  rw [hS] at F5
  have F5 := Lib.hid F5
  clear ho hm hf hS F1 F2 F3 F4
  go_wp2_with fail
  have hleft := eleft_some w5 s 4 _ q g5 F5.out.obj 3 15 (by omega) 40 (by decide) 25 0 (fun W => sub_fits 40 15 W ⟨by omega, by omega⟩ ⟨by omega, by omega⟩ ⟨by omega, by omega⟩) (fun h => absurd rfl h)
  refine hleft.mono ?_
  rintro e w6 ⟨rfl, hb6⟩
  have F6 := Lib.hid (F5.out.below hb6)
  clear hb6 hleft F5
  go_wp2_with fail
  with_reducible refine (edue_ok w6 s 4 _ q g5 F6.out.obj 10).mono ?_
  rintro e w7 ⟨v, g7, rfl, ho, hrow, hm, hf, hv⟩
  have hN : dueN [(1, -5), (0, 10), (2, 10), (3, 40)] 10 = 3 := by decide
  rw [hN] at ho hrow
  have F7 := Lib.hid (F6.out.step ho hm hf)
  have hrow' : w7.ownsRow 0 3 1 v ([1, 0, 2] : List Int).length (([1, 0, 2] : List Int).map fun x => .int .i64 x) := hrow
  have I1 := Lib.hid (IntSl.of_owns (hrow'.alloc (.cells #[.int .i64 1, .int .i64 0, .int .i64 2] 3)))
  have I2 := Lib.hid (IntSl.of_blk (z := [1, 0, 2]) (Blk.new w7 3 [.int .i64 1, .int .i64 0, .int .i64 2]))
  have hb8 : Below w7.heap.size w7 (w7.alloc (.cells #[.int .i64 1, .int .i64 0, .int .i64 2] 3)) := (Below.refl _ _).alloc (Nat.le_refl _) _
  have F8 := Lib.hid (F7.out.below hb8)
  clear ho hrow hm hf hv hN hrow' hb8 F6 F7
  go_wp2_with fail
  refine (same35 _ _ (.slice (some ⟨w7.heap.size, 0, none⟩) 3 3) _ _ I1.out I2.out (by decide) (by decide)).mono ?_
  rintro e w9 ⟨rfl, hb9⟩
  have F9 := Lib.hid (F8.out.below hb9)
  have hsm : sameB [1, 0, 2] [1, 0, 2] = true := by decide
  clear hb9 I1 I2 F8
  go_wp2_with (go_at_call 33; refine (elen_ok w9 s 4 _ q g7 F9.out.obj).mono ?_; rintro e w' ⟨rfl, rfl⟩)
  go_ret
  exact ⟨rfl, F9.out.bel⟩

/-- What has been set after k rounds. -/
theorem part_set (z : List Int) (back : Bool) (k : Nat) (h : k < z.length) :
    ins (((if back then z.length - 1 - k else k : Nat) : Int), z.getD (if back then z.length - 1 - k else k) 0) (del ((if back then z.length - 1 - k else k : Nat) : Int) (sortE (part z back k))) = sortE (part z back (k + 1)) := by
  rw [del_self (part_new z back k h), part_step z back k h]

structure EFilled (z : List Int) (w : World) (e : Ending) (w' : World) : Prop where
  out : ∃ s q g, EFresh w s 300 (sortE (pairs z)) q g w' ∧ e = .returned (.pointer (some ⟨s, 0, none⟩))

set_option maxHeartbeats 4000000 in
set_option maxRecDepth 100000 in
theorem filled35 (ao : Option Addr) (len cap b off : Nat) (z : List Int) (back : Bool) (w : World) (hz : InRow .i64 w ao len b off z) (hl : len ≤ 300) :
    Calls Try.prog 26 #[.slice ao len cap, .bool back] w (EFilled z w) := by
  have HZ := Lib.hid hz
  clear hz
  go_enter Try.func26, Try.ntmps26
  go_wp2_with fail
  refine (enew_ok 300 w (by omega)).mono ?_
  rintro e w1 ⟨hb1, s, q, g1, ho, hf, hs, rfl⟩
  have F1 := Lib.hid (EFresh.mk ho hb1 hf hs)
  clear ho hb1 hf hs
  go_wp2_with fail
  go_loopw [17] (fun s1 wr => ∃ (k : Nat) (g : HG), k ≤ len ∧ s1 = .int .i64 k ∧ EFresh w s 300 (sortE (part z back k)) q g wr) (fun s1 _ => len - (intOf s1).toNat)
  case atStart => exact ⟨0, g1, by omega, rfl, by rw [part_zero]; exact F1.out⟩
  case round =>
    obtain ⟨k, g, hk, rfl, hfr⟩ := hrel
    have FR := Lib.hid hfr
    clear F1
    by_cases hlt : k < len
    · obtain rfl := HZ.out.adr (by omega)
      have hzl := HZ.out.size
      have hi : (if back then z.length - 1 - k else k) < len := by split <;> omega
      have hc := (hfr.bel.cell (p := ⟨b, off + (if back then z.length - 1 - k else k), none⟩) (HZ.out.lt (by omega))).trans (HZ.out.cell _ hi)
      have hstp := Lib.hid (part_set z back k (by omega))
      clear hfr
      cases back with
      | false =>
        simp only [Bool.false_eq_true, if_false] at hi hc hstp
        generalize z.getD k 0 = x at hc hstp
        go_wp2_with fail
        with_reducible refine (eset_okI wr s 300 _ q g FR.out.obj _ x k rfl (by omega)).mono ?_
        rintro e w2 ⟨rfl, g2, ho2, hm2, hf2⟩
        rw [hstp.out] at ho2
        have F2 := Lib.hid (FR.out.step ho2 hm2 hf2)
        clear ho2 hm2 hf2 hc
        go_wp2_with fail
        go_roundw
        case rel => exact ⟨k + 1, g2, by omega, by go_num, F2.out⟩
        case measure => simp [intOf]; omega
      | true =>
        simp only [if_true] at hi hc hstp
        rw [hzl] at hi hc hstp
        generalize z.getD (len - 1 - k) 0 = x at hc hstp
        go_wp2_with fail
        with_reducible refine (eset_okI wr s 300 _ q g FR.out.obj _ x (len - 1 - k) (by omega) (by omega)).mono ?_
        rintro e w2 ⟨rfl, g2, ho2, hm2, hf2⟩
        rw [hstp.out] at ho2
        have F2 := Lib.hid (FR.out.step ho2 hm2 hf2)
        clear ho2 hm2 hf2 hc
        go_wp2_with fail
        go_roundw
        case rel => exact ⟨k + 1, g2, by omega, by go_num, F2.out⟩
        case measure => simp [intOf]; omega
    · obtain rfl : k = len := by omega
      clear hfr
      go_wp2_with fail
      go_ret
      refine ⟨s, q, g, ?_, rfl⟩
      have := FR.out
      rw [← HZ.out.size, part_all] at this
      exact this

end Go.Proofs.Ytebclbpibafkdaa
