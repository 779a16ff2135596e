/- The reference of layer 4: List, Min. -/
import Derived.Test.YtebclbpibafkdaaR4A
import Derived.Test.YtebclbpibafkdaaExpB
import Derived.Test.YtebclbpibafkdaaClone
namespace Go.Proofs.Ytebclbpibafkdaa
set_option linter.unusedVariables false
set_option linter.unusedSimpArgs false
open Go.RowKit

theorem wo_perm {L : List Ent} {p : Nat} (hp : p < L.length) : L.Perm (ent L p :: wo (p : Int) L L.length) := by
  rw [wo_at p _ hp (Nat.le_refl _), List.take_length]
  have e1 : L = L.take p ++ L[p] :: L.drop (p + 1) := by rw [List.getElem_cons_drop, List.take_append_drop]
  rw [ent_eq hp]
  conv => lhs; rw [e1]
  exact List.perm_middle

/-- The least of what is left comes next. -/
theorem sel_next {S R : List Ent} {k p : Nat} (hs : Sorted S) (hk : k < S.length) (hR : R.Perm (S.drop k)) (hp : p < R.length) (hmin : ∀ j, j < R.length → ¬ elt (ent R j) (ent R p)) : ent R p = ent S k := by
  have e1 : S.drop k = ent S k :: S.drop (k + 1) := by rw [ent_eq hk, List.getElem_cons_drop]
  have hsd : Sorted (S.drop k) := hs.sublist (List.drop_sublist _ _)
  rw [e1] at hsd hR
  unfold Sorted at hsd
  rw [List.pairwise_cons] at hsd
  obtain ⟨j, hj, he⟩ := mem_ent (hR.mem_iff.2 List.mem_cons_self)
  have h1 := hmin j hj
  rw [he] at h1
  rcases List.mem_cons.1 (hR.mem_iff.1 (ent_mem hp)) with h2 | h2
  · exact h2
  · exact absurd (hsd.1 _ h2) h1

theorem sel_rest {S R : List Ent} {k p : Nat} (hk : k < S.length) (hR : R.Perm (S.drop k)) (hp : p < R.length) (he : ent R p = ent S k) : (wo (p : Int) R R.length).Perm (S.drop (k + 1)) := by
  have e1 : S.drop k = ent S k :: S.drop (k + 1) := by rw [ent_eq hk, List.getElem_cons_drop]
  have h1 := (wo_perm hp).symm.trans hR
  rw [e1, he] at h1
  exact h1.cons_inv

def sliceLen : Value → Nat
  | .slice _ n _ => n
  | _ => 0

/-- The two rows of List: what is out, what is left. -/
structure Sel (w : World) (O R : List Ent) (u v : Value) (W : World) : Prop where
  o : ENewRow w O u W
  r : ENewRow w R v W
  ap : ∀ x, u.ownBlock = some x → v.ownBlock ≠ some x

theorem Sel.below {w : World} {O R : List Ent} {u v : Value} {W W' : World} (h : Sel w O R u v W) (k : Below W.heap.size W W') : Sel w O R u v W' :=
  ⟨h.o.below k, h.r.below k, h.ap⟩

theorem Sel.more {w : World} {O R : List Ent} {u v : Value} {W W1 W2 : World} (h : Sel w O R u v W) (hb : Below W.heap.size W W1) {x : Ent} {u' : Value}
    (ho : W2.ownsRow 0 28 2 u' (O.length + 1) (ents O ++ [.int .i64 x.1, .int .i64 x.2])) (hg : W1.grownBy W2 u.ownBlock) (hk : ∀ k, u'.ownBlock = some k → u.ownBlock = some k ∨ W1.heap.size ≤ k) : Sel w (O ++ [x]) R u' v W2 := by
  have h1 := h.below hb
  have hs1 := hb.size
  refine ⟨h.o.more hb ho hg hk, ⟨owns_same h1.r.own (fun k e => hg.block k (h1.r.own.lt k e).2 (fun e' => h.ap k e'.symm e)), (h.o.more hb ho hg hk).bel, h.r.new⟩, fun k e e' => ?_⟩
  rcases hk k e with h2 | h2
  · exact h.ap k h2 e'
  · have := (h.r.own.lt k e').2; omega

theorem Sel.left {w : World} {O R R' : List Ent} {u v v' : Value} {W W' : World} (h : Sel w O R u v W) (hr : ENewRow W R' v' W') : Sel w O R' u v' W' := by
  have hsz := h.o.bel.size
  refine ⟨h.o.below hr.bel, ⟨hr.own, h.o.bel.trans (hr.bel.mono hsz), fun k hk => Nat.le_trans hsz (hr.new k hk)⟩, fun k e e' => ?_⟩
  have := (h.o.own.lt k e).2
  have := hr.new k e'
  omega

set_option maxHeartbeats 1000000 in
theorem r4list_nil (w : World) : Calls Try.prog 80 #[.pointer none] w (Ret (.slice none 0 0) w) := by
  go_enter Try.func80, Try.ntmps80
  go_wp2_with (go_at_call 86; refine (r4valid_nil w).mono ?_; rintro e w' ⟨rfl, rfl⟩)
  go_ret
  exact ⟨rfl, rfl⟩

set_option maxHeartbeats 8000000 in
set_option maxRecDepth 100000 in
theorem r4list_ok (w : World) (r slots : Nat) (L : List Ent) (v : Value) (h : R4Obj w r slots L v) (S : List Ent) (hs : Sorted S) (hp : S.Perm L) :
    Calls Try.prog 80 #[.pointer (some ⟨r, 0, none⟩)] w (RRow w S) := by
  have c0 := h.blk.cell (i := 0) rfl
  have c2 := h.blk.cell (i := 2) rfl
  have hlen := h.len
  have HO := Lib.hid h.own
  have HS := Lib.hid hs
  have HP := Lib.hid hp
  have hSl : S.length ≤ 65536 := by rw [hp.length_eq]; exact hlen
  obtain ⟨ao, cap, rfl⟩ := owns_slice h.own
  clear h hs hp
  go_enter Try.func80, Try.ntmps80
  go_wp2_with (go_at_call 86; refine (r4valid_ok r w c0).mono ?_; rintro e w' ⟨rfl, rfl⟩)
  with_reducible refine (without_ok w L _ HO.out hlen (-1)).mono ?_
  rintro e w1 ⟨vr, rfl, hrow⟩
  rw [wo_all (by omega)] at hrow
  have ST : Hid (Sel w [] L (.slice none 0 0) vr w1) := ⟨⟨World.ownsRow_nil _ _ _ _, hrow.bel, by simp [Value.ownBlock]⟩, hrow, by simp [Value.ownBlock]⟩
  obtain ⟨ar, cr, hvr⟩ := owns_slice hrow.own
  subst hvr
  clear hrow c0 c2 HO
  go_wp2_with fail
  go_loopw [3, 4] (fun s3 s4 wr => ∃ (k : Nat) (R : List Ent), k ≤ S.length ∧ R.Perm (S.drop k) ∧ Sel w (S.take k) R s3 s4 wr) (fun _ s4 _ => sliceLen s4)
  case atStart => exact ⟨0, L, by omega, by rw [List.drop_zero]; exact HP.out.symm, by rw [List.take_zero]; exact ST.out⟩
  case round =>
    obtain ⟨k, R, hk, hR, hsel⟩ := hrel
    obtain ⟨O, hO0⟩ : ∃ O, O = S.take k := ⟨_, rfl⟩
    rw [← hO0] at hsel
    have hOl : O.length ≤ 65536 := by rw [hO0, List.length_take]; omega
    have HO0 := Lib.hid hO0
    clear hO0
    obtain ⟨oo, oc, hoo⟩ := owns_slice hsel.o.own
    subst hoo
    obtain ⟨ar, cr, hvr, hcells⟩ := erow_form hsel.r.own
    subst hvr
    have hRl : R.length = S.length - k := by rw [hR.length_eq, List.length_drop]
    have HR := Lib.hid hR
    have SL := Lib.hid hsel
    have HC := Lib.hid hcells
    clear ST hR hsel hcells
    obtain ⟨n, hn⟩ : ∃ n, n = R.length := ⟨_, rfl⟩
    rw [← hn] at hRl
    have HN := Lib.hid hn
    rw [← hn]
    clear hn
    have hn6 : n ≤ 65536 := by omega
    have hkS0 : 0 < n → k < S.length := by omega
    have hkS1 : n = 0 → k = S.length := by omega
    have HK0 := Lib.hid hkS0
    have HK1 := Lib.hid hkS1
    clear hRl hkS0 hkS1
    by_cases hlt : 0 < n
    · obtain ⟨b, rfl, hb, hc1, hc2, hc⟩ := HC.out (by rw [← HN.out]; exact hlt)
      rw [← HN.out] at hc1
      unfold maxLen at hc2
      have HCC := Lib.hid hc
      clear hc HC
      obtain ⟨wq, rfl⟩ : ∃ wq : World, wq = wr := ⟨_, rfl⟩
      go_wp2_with fail
      go_loopw [5, 6] (fun s5 s6 wx => ∃ (p i : Nat), p < n ∧ 1 ≤ i ∧ i ≤ n ∧ s5 = .int .i64 p ∧ s6 = .int .i64 i ∧ Hid (∀ j, j < i → ¬ elt (ent R j) (ent R p)) ∧ Below wq.heap.size wq wx) (fun _ s6 _ => n - (intOf s6).toNat)
      case atStart => exact ⟨0, 1, hlt, by omega, by omega, rfl, rfl, fun j hj => by
        obtain rfl : j = 0 := by omega
        exact elt_irrefl _, Below.refl _ _⟩
      case round =>
        obtain ⟨p, i, hpn, hi1, hin, rfl, rfl, HM, hbel⟩ := hrel
        by_cases hil : i < n
        · obtain ⟨i0, i1⟩ := HCC.out i (by rw [← HN.out]; exact hil)
          obtain ⟨p0, p1⟩ := HCC.out p (by rw [← HN.out]; exact hpn)
          have c1 := (hbel.drew.cell hb).trans i0
          have c2 := (hbel.drew.cell hb).trans i1
          have c3 := (hbel.drew.cell hb).trans p0
          have c4 := (hbel.drew.cell hb).trans p1
          have HBL := Lib.hid hbel.drew
          clear hbel i0 i1 p0 p1
          have ti : (i : Int) < (n : Int) := by omega
          have tp : (p : Int) < (n : Int) := by omega
          go_wp2_with fail
          refine region_tail 8 (by kernel_rfl) (by kernel_rfl) ?_
          intro w2 hw2
          rw [← hw2] at c1 c2 c3 c4 HBL
          clear hw2
          simp only [List.take_succ_cons, List.take_zero, List.drop_succ_cons, List.drop_zero]
          repeat still_step
          refine wpStill_nil ?_
          clear c1 c2 c3 c4
          go_wp2_with fail
          with_reducible refine (before_ok (ent R i) (ent R p) w2).mono ?_
          rintro e w3 ⟨rfl, hb3⟩
          have HB3 := Lib.hid (HBL.out.trans (hb3.mono HBL.out.size))
          clear hb3 HBL
          by_cases he : elt (ent R i) (ent R p)
          · have t1 : decide (elt (ent R i) (ent R p)) = true := decide_eq_true he
            have HE := Lib.hid he
            rw [t1]
            clear he t1
            go_wp2_with fail
            go_roundw
            case rel => exact ⟨i, i + 1, hil, by omega, by omega, rfl, by go_num, fun j hj => by
              by_cases e : j = i
              · subst e; exact elt_irrefl _
              · exact fun hh => HM.out j (by omega) (elt_trans hh HE.out), HB3.out⟩
            case measure => simp [intOf]; omega
          · have t1 : decide (elt (ent R i) (ent R p)) = false := decide_eq_false he
            have HE := Lib.hid he
            rw [t1]
            clear he t1
            go_wp2_with fail
            go_roundw
            case rel => exact ⟨p, i + 1, hpn, by omega, by omega, rfl, by go_num, fun j hj => by
              by_cases e : j = i
              · subst e; exact HE.out
              · exact HM.out j (by omega), HB3.out⟩
            case measure => simp [intOf]; omega
        · obtain rfl : i = n := by omega
          have hkS := HK0.out (by omega)
          have hnx := sel_next HS.out hkS HR.out (by rw [← HN.out]; exact hpn) (by rw [← HN.out]; exact HM.out)
          have hrs := sel_rest hkS HR.out (by rw [← HN.out]; exact hpn) hnx
          have hts := take_ent (R := S) (i := k) (by omega)
          obtain ⟨q0, q1⟩ := HCC.out p (by rw [← HN.out]; exact hpn)
          have c1 := (hbel.cell hb).trans q0
          have c2 := (hbel.cell hb).trans q1
          rw [hnx] at c1 c2
          have SX := Lib.hid (SL.out.below hbel)
          have HNX := Lib.hid hnx
          have HRS := Lib.hid hrs
          have HTS := Lib.hid hts
          have hbw : b < wr.heap.size := Nat.lt_of_lt_of_le hb hbel.size
          have tp : (p : Int) < (i : Int) := by omega
          clear hnx hrs hts q0 q1 hbel HM
          rw [← HO0.out] at HTS
          generalize ent S k = x at *
          have hb2 : Below wr.heap.size wr (wr.alloc (.cells #[.int .i64 x.1, .int .i64 x.2] 28)) := (Below.refl _ _).alloc (Nat.le_refl _) _
          have HB2 := Lib.hid hb2
          have hnews := Lib.hid (news_new wr 28 [.int .i64 x.1, .int .i64 x.2])
          have hown := Lib.hid (SX.out.below hb2).o.own
          clear hb2
          go_wp2_with (at_builtin; apply keepIt2)
          apply Lib.hid
          refine wpList_appendB 28 (.agg #[.int .i64 0, .int .i64 0]) 2 16 Try.underlying68 Try.infoEntry rfl (by decide) (.slice oo O.length oc) O.length (ents O) rfl hown.out ⟨wr.heap.size, 0, none⟩ 1 1 [.int .i64 x.1, .int .i64 x.2] rfl rfl hnews.out (by simp [Value.oneCell']) (by unfold maxLen; omega) (by omega) ?_
          intro v' w4 ho hg hk2
          have S4 := Lib.hid (SX.out.more HB2.out ho hg hk2)
          clear ho hg hk2 hown hnews HB2 c1 c2
          have hr4 := S4.out.r.own
          rw [← HN.out] at hr4
          have HR4 := Lib.hid hr4
          clear hr4
          go_wp2_with fail
          have hwo := without_ok w4 R (.slice (some ⟨b, 0, none⟩) i cr) (by rw [← HN.out]; exact HR4.out) (by rw [← HN.out]; omega) p
          with_reducible refine hwo.mono ?_
          clear hwo
          rintro e w5 ⟨v5, rfl, hrow5⟩
          have S5 := Lib.hid (S4.out.left hrow5)
          obtain ⟨a5, c5, hv5⟩ := owns_slice hrow5.own
          subst hv5
          have hl5 : (wo (p : Int) R R.length).length + 1 = i := by
            have := (wo_perm (show p < R.length by rw [← HN.out]; exact hpn)).length_eq
            rw [HN.out]; simp only [List.length_cons] at this; omega
          have HL5 := Lib.hid hl5
          clear hrow5 hl5 S4
          go_wp2_with fail
          go_roundw
          case rel => exact ⟨k + 1, _, hkS, HRS.out, by rw [HTS.out]; exact S5.out⟩
          case measure => simp only [sliceLen]; have := HL5.out; omega
    · have hO : O = S := by rw [HO0.out]; exact List.take_of_length_le (by have := HK1.out (by omega); omega)
      have FIN : Hid (RRow w S (.returned (.slice oo O.length oc)) wr) := by
        have := SL.out.o
        rw [hO] at this ⊢
        exact ⟨_, rfl, this⟩
      have t0 : decide (0 < n) = false := decide_eq_false hlt
      clear hO
      go_wp2_with fail
      go_ret
      exact FIN.out

end Go.Proofs.Ytebclbpibafkdaa
