/- The reference of layer 35: Due. -/
import Derived.Test.YtebclbpibafkdaaRefG
import Derived.Test.YtebclbpibafkdaaOrderP
import Derived.Test.YtebclbpibafkdaaTwiceW
namespace Go.Proofs.Ytebclbpibafkdaa
set_option linter.unusedVariables false
set_option linter.unusedSimpArgs false
open Go.RowKit

structure RDInv (w : World) (r slots : Nat) (L : List Ent) (v : Value) (now : Int) (k : Nat) (u vo : Value) (W : World) : Prop where
  obj : RObj W r slots (L.drop k) u
  row : W.ownsRow 0 3 1 vo k ((L.take k).map fun e => .int .i64 e.1)
  mod : Mod (fun x => x = r) w W
  nu : ∀ x, u.ownBlock = some x → v.ownBlock = some x ∨ w.heap.size ≤ x
  nr : ∀ x, vo.ownBlock = some x → w.heap.size ≤ x ∧ u.ownBlock ≠ some x
  all : ∀ i, i < k → (ent L i).2 ≤ now

theorem RDInv.ner {w : World} {r slots : Nat} {L : List Ent} {v : Value} {now : Int} {k : Nat} {u vo : Value} {W : World} (h : RDInv w r slots L v now k u vo W) (hr : r < w.heap.size) : ∀ x, vo.ownBlock = some x → x ≠ r := by
  intro x hx e
  have := (h.nr x hx).1
  omega

/-- The reference's object behind the append. -/
theorem RDInv.objA {w : World} {r slots : Nat} {L : List Ent} {v : Value} {now : Int} {k : Nat} {u vo : Value} {W : World} (h : RDInv w r slots L v now k u vo W) (hr : r < w.heap.size) {W1 W2 : World} (hb : Below W.heap.size W W1) (hg : W1.grownBy W2 vo.ownBlock) : RObj W2 r slots (L.drop k) u := by
  refine (h.obj.below hb).mod ((Mod.refl (fun x => vo.ownBlock = some x) W1).grown hg (fun x hx _ => hx)) (fun e => h.ner hr r e rfl) (fun x hx e => (h.nr x e).2 hx)

theorem wo_zero_drop {L : List Ent} (h : 0 < L.length) : wo 0 L L.length = L.drop 1 := by
  have := wo_at (L := L) 0 L.length h (Nat.le_refl _)
  rw [List.take_length] at this
  simpa using this

theorem RDInv.step {w : World} {r slots : Nat} {L : List Ent} {v : Value} {now : Int} {k : Nat} {u vo : Value} {W : World} (h : RDInv w r slots L v now k u vo W) (hr : r < w.heap.size) (hk : k < L.length) (hn : (ent L k).2 ≤ now)
    {W1 W2 W3 : World} (hb : Below W.heap.size W W1) {vo' u' : Value} (ho : W2.ownsRow 0 3 1 vo' (k + 1) ((L.take k).map (fun e => .int .i64 e.1) ++ [.int .i64 (ent L k).1])) (hg : W1.grownBy W2 vo.ownBlock)
    (hv : ∀ x, vo'.ownBlock = some x → vo.ownBlock = some x ∨ W1.heap.size ≤ x) (hrow : ENewRow W2 (L.drop (k + 1)) u' W3) : RDInv w r slots L v now (k + 1) u' vo' (W3.setCell ⟨r, 2, none⟩ u') := by
  have hs := h.mod.size
  have hs1 := hb.size
  have hs2 := hg.size
  have hnew : ∀ x, vo'.ownBlock = some x → w.heap.size ≤ x := by
    intro x hx
    rcases hv x hx with e | e
    · exact (h.nr x e).1
    · omega
  obtain ⟨_, u2, h2, h3, h4⟩ := (h.objA hr hb hg).stored hrow (by rw [List.length_drop]; have := h.obj.len; rw [List.length_drop] at this; omega) (.int .i64 0)
  have e2 : u2 = u' := by
    have c1 := h2.blk
    have c2 := ((h.objA hr hb hg).blk.below hrow.bel (h.objA hr hb hg).blk.lt).set 2 u'
    have := (c1.inj c2).2
    simpa using this
  subst e2
  refine ⟨h2, ?_, ?_, fun x hx => .inr ?_, fun x hx => ⟨hnew x hx, fun e => ?_⟩, fun i hi => ?_⟩
  · rw [take_ent hk, List.map_append]
    refine owns_mod (F := fun x => x = r) ho h3 (fun x hx e => ?_)
    have := hnew x hx
    omega
  · have m1 : Mod (fun x => x = r) w W2 := (h.mod.trans (Mod.of_below (F := fun _ => False) hb) (fun _ _ e => e.elim)).grown hg (fun x hx hlt => by have := (h.nr x hx).1; omega)
    exact m1.trans h3 (fun _ _ e => e)
  · have := hrow.new x hx; omega
  · have h5 := hrow.new x e
    have h6 := (ho.lt x hx).2
    omega
  · by_cases e : i = k
    · subst e; exact hn
    · exact h.all i (by omega)

structure RDuePost (L : List Ent) (now : Int) (w : World) (r slots : Nat) (v : Value) (e : Ending) (W : World) : Prop where
  out : ∃ vo u, e = .returned vo ∧ RDInv w r slots L v now (dueN L now) u vo W

theorem lenAt_ref {W : World} {r slots : Nat} {L : List Ent} {v : Value} (h : RObj W r slots L v) : lenAt W r = L.length := by
  obtain ⟨ao, cap, rfl⟩ := owns_slice h.own
  unfold lenAt
  rw [h.blk.cell (i := 2) rfl]

set_option maxHeartbeats 1000000 in
theorem rdue_nil (w : World) (now : Int) :
    Calls Try.prog 40 #[.pointer none, .int .i64 now] w (Ret (.slice none 0 0) w) := by
  go_enter Try.func40, Try.ntmps40
  go_wp2_with (go_at_call 73; refine (rvalid_nil w).mono ?_; rintro e w' ⟨rfl, rfl⟩)
  go_ret
  exact ⟨rfl, rfl⟩

set_option maxHeartbeats 4000000 in
set_option maxRecDepth 100000 in
theorem rdue_ok (w : World) (r slots : Nat) (L : List Ent) (v : Value) (h : RObj w r slots L v) (now : Int) :
    Calls Try.prog 40 #[.pointer (some ⟨r, 0, none⟩), .int .i64 now] w (RDuePost L now w r slots v) := by
  have c0 := h.blk.cell (i := 0) rfl
  have hrl := h.blk.lt
  have hlen := h.len
  have HST : Hid (RDInv w r slots L v now 0 v (.slice none 0 0) w) := ⟨h, World.ownsRow_nil _ _ _ _, Mod.refl _ _, fun x hx => .inl hx, by simp [Value.ownBlock], fun i hi => by omega⟩
  clear h
  go_enter Try.func40, Try.ntmps40
  go_wp2_with (go_at_call 73; refine (rvalid_ok r w c0).mono ?_; rintro e w' ⟨rfl, rfl⟩)
  go_loopw [5] (fun s5 wr => ∃ (k : Nat) (u : Value), k ≤ L.length ∧ RDInv w r slots L v now k u s5 wr) (fun _ wr => lenAt wr r)
  case atStart => exact ⟨0, v, by omega, HST.out⟩
  case round =>
    obtain ⟨k, u, hk, hi⟩ := hrel
    clear HST
    obtain ⟨ao, cap, rfl, hcells⟩ := erow_form hi.obj.own
    obtain ⟨oo, oc, rfl⟩ := owns_slice hi.row
    have c2 := hi.obj.blk.cell (i := 2) rfl
    have hl0 := lenAt_ref hi.obj
    rw [List.length_drop] at c2
    have HI := Lib.hid hi
    have HL := Lib.hid hl0
    clear hl0
    by_cases hlt : k < L.length
    · obtain ⟨b, rfl, hb, hc1, hc2, hc⟩ := hcells (by rw [List.length_drop]; omega)
      obtain ⟨k0, k1⟩ := hc 0 (by rw [List.length_drop]; omega)
      simp only [ent_drop, Nat.add_zero, Nat.zero_mul, Nat.zero_add] at k0 k1
      rw [List.length_drop] at hc1
      unfold maxLen at hc2
      have HLT := Lib.hid hlt
      obtain ⟨m, hm⟩ : ∃ m, m = L.length - k := ⟨_, rfl⟩
      rw [← hm] at c2 hc1
      have hm0 : 0 < m := by omega
      have hm2 : m ≤ 65536 := by omega
      have HM := Lib.hid hm
      clear hm
      obtain ⟨x, hx⟩ : ∃ x, x = ent L k := ⟨_, rfl⟩
      have HX := Lib.hid hx
      rw [← hx] at k0 k1
      clear hx hc hcells hi
      by_cases hdue : x.2 ≤ now
      · have t1 : decide (x.2 ≤ now) = true := decide_eq_true hdue
        have HD := Lib.hid hdue
        clear hdue
        have hb2 : Below wr.heap.size wr (wr.alloc (.cells #[.int .i64 x.1] 3)) := (Below.refl _ _).alloc (Nat.le_refl _) _
        have HB2 := Lib.hid hb2
        have hnews := Lib.hid (news_new wr 3 [.int .i64 x.1])
        have hown := Lib.hid (HI.out.row.alloc (.cells #[.int .i64 x.1] 3))
        clear hb2
        go_wp2_with (at_builtin; apply keepIt2)
        apply Lib.hid
        refine wpList_appendB 3 (.int .i64 0) 1 8 Try.underlying40 Try.infoInt rfl (by decide) (.slice oo k oc) k _ rfl hown.out ⟨wr.heap.size, 0, none⟩ 1 1 [.int .i64 x.1] rfl rfl hnews.out (by simp [Value.oneCell']) (by unfold maxLen; omega) (by omega) ?_
        intro vo' w2 ho hg hv2
        have HO2 := Lib.hid (HI.out.objA hrl HB2.out hg)
        have HO := Lib.hid ho
        have HG := Lib.hid hg
        have HV := Lib.hid hv2
        clear ho hg hv2 hown hnews k0 k1 c2
        go_wp2_with fail
        with_reducible refine (rwithout_ok w2 r slots _ _ HO2.out 0).mono ?_
        rintro e w3 ⟨u', rfl, hrow⟩
        rw [wo_zero_drop (by rw [List.length_drop]; have := HLT.out; omega), List.drop_drop] at hrow
        have B3 := HO2.out.blk.below hrow.bel HO2.out.blk.lt
        have d2 := B3.cell (i := 2) rfl
        have f2 := B3.free 2
        obtain ⟨ao3, cp3, hu3⟩ := owns_slice hrow.own
        subst hu3
        have HST := HI.out.step hrl HLT.out (by rw [← HX.out]; exact HD.out) HB2.out (by rw [← HX.out]; exact HO.out) HG.out HV.out hrow
        simp only [List.length_drop] at HST
        have hl3 := lenAt_ref HST.obj
        rw [List.length_drop] at hl3
        have HS := Lib.hid HST
        have HL3 := Lib.hid hl3
        clear HST hl3 hrow B3
        go_wp2_with fail
        go_roundw
        case rel => exact ⟨k + 1, _, HLT.out, HS.out⟩
        case measure => rw [HL.out, HL3.out, List.length_drop]; have := HLT.out; omega
      · have t1 : decide (x.2 ≤ now) = false := decide_eq_false hdue
        have HD := Lib.hid hdue
        clear hdue
        have hkd : k = dueN L now := dueN_at hk HI.out.all (fun _ => by rw [← HX.out]; exact HD.out)
        have FIN : Hid (RDuePost L now w r slots v (.returned (.slice oo k oc)) wr) := ⟨_, _, rfl, by rw [← hkd]; exact HI.out⟩
        clear hkd
        go_wp2_with fail
        go_ret
        exact FIN.out
    · have hkd : k = dueN L now := dueN_at hk HI.out.all (fun e => absurd e hlt)
      have FIN : Hid (RDuePost L now w r slots v (.returned (.slice oo k oc)) wr) := ⟨_, _, rfl, by rw [← hkd]; exact HI.out⟩
      rw [show L.length - k = 0 by omega] at c2
      clear hkd hcells hi
      go_wp2_with fail
      go_ret
      exact FIN.out

end Go.Proofs.Ytebclbpibafkdaa
