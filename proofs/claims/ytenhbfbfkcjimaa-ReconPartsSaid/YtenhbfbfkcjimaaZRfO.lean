/- Reference of layer 17: Order. -/
import Derived.Test.YtenhbfbfkcjimaaZRfN
import Derived.Test.YtenhbfbfkcjimaaZRfP
import Derived.RegionTactic
import Derived.BigRegion
namespace Go.Proofs.Ytenhbfbfkcjimaa
set_option linter.unusedVariables false
set_option linter.unusedSimpArgs false
open Go.RowKit

theorem owns_drewN {w : World} {B e size n : Nat} {v : Value} {xs : List Value} (h : w.ownsRow B e size v n xs) (q : Nat) : (w.drewN q).ownsRow B e size v n xs := h
theorem natV_snoc (l : List Nat) (x : Nat) : natV (l ++ [x]) = natV l ++ [.int .i64 (x : Int)] := by simp [natV]

/-- What an append of one number leaves. -/
theorem app_one {B : Nat} {wr w6 : World} {T : TypeId} {o : Obj} {v v6 : Value} {n : Nat} {xs : List Nat} {x : Nat} (hv : ∀ k, v.ownBlock = some k → B ≤ k) (hB : B ≤ wr.heap.size) (ho : w6.ownsRow 0 T 1 v6 (n + 1) (natV xs ++ [.int .i64 (x : Int)])) (hg : (wr.alloc o).grownBy w6 v.ownBlock)
    (hn : ∀ k, v6.ownBlock = some k → v.ownBlock = some k ∨ (wr.alloc o).heap.size ≤ k) : w6.ownsRow 0 T 1 v6 (n + 1) (natV (xs ++ [x])) ∧ (∀ k, v6.ownBlock = some k → B ≤ k) ∧ Below B wr w6 := by
  refine ⟨by rw [natV_snoc]; exact ho, fun k hk => ?_, ((Below.refl _ _).alloc hB o).trans (grown_below hg hv (by simp; omega))⟩
  rcases hn k hk with e | e
  · exact hv k e
  · simp at e; omega

set_option maxHeartbeats 4000000 in
set_option maxRecDepth 100000 in
theorem rorder_ok (w : World) (ao : Option Addr) (m cap b off : Nat) (l : List Ed) (he : ERow w ao m b off l) (hm : m ≤ 16384) :
    Calls Try.prog 77 #[.slice ao m cap] w (RowPost w 3 1 m (natV (ordL l))) := by
  have HE := Lib.hid he
  have HS := Lib.hid he.size
  clear he
  go_enter Try.func77, Try.ntmps77
  go_wp2_with fail
  go_loopw [3, 4] (fun v s wr => ∃ (i : Nat) (out : List Nat), i ≤ m ∧ s = .int .i64 i ∧ SrtAt l i out ∧ wr.ownsRow 0 3 1 v i (natV out) ∧ (∀ k, v.ownBlock = some k → w.heap.size ≤ k) ∧ Below w.heap.size w wr) (fun _ s _ => m - (intOf s).toNat)
  case atStart => exact ⟨0, [], Nat.zero_le _, rfl, SrtAt.nil l, World.ownsRow_nil _ _ _ _, fun k hk => (by cases hk), Below.refl _ _⟩
  case round =>
    obtain ⟨i, out, hi, rfl, hsr, hv, hvn, hb⟩ := hrel
    have HSR := Lib.hid hsr
    have HVR := Lib.hid hv
    have HVN := Lib.hid hvn
    have HBR := Lib.hid hb
    clear hsr hv hvn hb
    by_cases him : i < m
    · have HOW := Lib.hid (HVR.out.alloc (.cells #[.int .i64 i] 3))
      have HNW := Lib.hid (news_new wr 3 [.int .i64 i])
      go_wp2_with (at_builtin; apply keepIt)
      apply Lib.hid
      refine wpList_appendB 3 (.int .i64 0) 1 8 Try.underlying24 Try.infoInt rfl (by decide) _ i _ rfl HOW.out ⟨wr.heap.size, 0, none⟩ 1 1 [.int .i64 i] rfl rfl HNW.out (by simp [Value.oneCell']) (by unfold maxLen; omega) (by omega) ?_
      intro v6 w6 ho6 hg6 hn6
      obtain ⟨hv6, hvn6, hb6⟩ := app_one HVN.out HBR.out.size ho6 hg6 hn6
      obtain ⟨N, HN⟩ : ∃ N, Hid (i + 1 = N) := ⟨_, rfl⟩
      have hiN : i < N := by have := HN.out; omega
      have hN1 : N ≤ 16384 := by have := HN.out; omega
      rw [HN.out] at hv6
      obtain ⟨g, cp, rfl, hcp, hcm, _⟩ := owns_form hv6 (by omega)
      have HB6 := Lib.hid (HBR.out.trans hb6)
      have HV6 := Lib.hid hv6
      have HG6 := Lib.hid (hvn6 g rfl)
      have HI6 := Lib.hid HSR.out.ins
      clear ho6 hg6 hn6 hv6 hvn6 hb6 hcm
      have HG7 : Hid (∀ k, (Value.slice (some ⟨g, 0, none⟩) N cp).ownBlock = some k → w.heap.size ≤ k) := fun k hk => by injection hk with hk; rw [← hk]; exact HG6.out
      go_wp2_with fail
      go_loopw [5] (fun s wz => ∃ (j : Nat) (out' : List Nat), s = .int .i64 j ∧ InsAt l i j out' ∧ wz.ownsRow 0 3 1 (.slice (some ⟨g, 0, none⟩) N cp) N (natV out') ∧ Below w.heap.size w wz) (fun s _ => (intOf s).toNat)
      case atStart => exact ⟨i, _, rfl, HI6.out, HV6.out, HB6.out⟩
      case round =>
        obtain ⟨j, out', rfl, hin, hv, hb⟩ := hrel
        clear HB6 HV6 HI6
        have HIN := Lib.hid hin
        have HV := Lib.hid hv
        have HB := Lib.hid hb
        have hji := hin.le
        have HLEN := Lib.hid (hin.len.trans HN.out)
        clear hin hv hb
        by_cases h0 : j = 0
        · have HD := Lib.hid (HIN.out.done (.inl h0))
          subst h0
          go_wp2_with fail
          go_quiet (fail)
          go_wp2_with fail
          go_roundw
          case rel => exact ⟨i + 1, out', by omega, by go_num, HD.out, by (rw [HN.out]; exact owns_drewN HV.out nq), HG7.out, bel_drewN HB.out nq⟩
          case measure => simp [intOf]; omega
        · obtain ⟨k, rfl⟩ : ∃ k, j = k + 1 := ⟨j - 1, by omega⟩
          clear h0
          obtain ⟨j, HJ⟩ : ∃ j, Hid (k + 1 = j) := ⟨_, rfl⟩
          have hjk : k < j := by have := HJ.out; omega
          have hself := HIN.out.self
          have hxl := HIN.out.lt (y := k) (by omega)
          rw [HJ.out] at hself
          obtain ⟨c1, f1⟩ := ownN HV.out HLEN.out (i := j) (by have := HJ.out; have := HN.out; omega)
          obtain ⟨c2, f2⟩ := ownN HV.out HLEN.out (i := k) (by have := HJ.out; have := HN.out; omega)
          rw [hself] at c1
          obtain ⟨x, hx⟩ : ∃ x, out'.getD k 0 = x := ⟨_, rfl⟩
          rw [hx] at c2 hxl
          have HX := Lib.hid hx
          clear hself hx
          have hER := HE.out.below HB.out
          obtain ⟨_, _, d1⟩ := hER.cell i him
          obtain ⟨_, _, d2⟩ := hER.cell x (by omega)
          obtain rfl := HE.out.adr (by omega)
          have s1 : IntKind.i64.wrap ((j : Int) - 1) = (k : Int) := by have := HJ.out; rw [IntWalk.i64_in _ (by omega)]; omega
          have g0 : (0 : Int) ≤ (k : Int) := by omega
          have g1 : (j : Int) < (N : Int) := by have := HJ.out; have := HN.out; omega
          have g2 : (k : Int) < (N : Int) := by omega
          have g5 : (0 : Int) ≤ (j : Int) := by omega
          have g6 : (0 : Int) < (j : Int) := by omega
          have tj : decide (0 < j) = true := by simp; omega
          rw [HJ.out]
          have g3 : (i : Int) < (m : Int) := by omega
          have g4 : (x : Int) < (m : Int) := by omega
          clear hER
          by_cases hlt : wI l i < wI l x
          · have tl : decide ((EA l i).W < (EA l x).W) = true := decide_eq_true hlt
            have HSW : Hid (InsAt l i k ((out'.set j x).set k i)) := by
              have := HIN.out.swap (by rw [HX.out]; exact hlt)
              rw [HX.out, HJ.out] at this
              exact this
            go_wp2_with fail
            go_quiet (fail)
            have HV2 := Lib.hid (owns_drewN HV.out nq)
            have HB2 := Lib.hid (bel_drewN HB.out nq)
            replace c1 : (wr.drewN nq).cell? ⟨g, j, none⟩ = some (.int .i64 (i : Int)) := c1
            replace c2 : (wr.drewN nq).cell? ⟨g, k, none⟩ = some (.int .i64 (x : Int)) := c2
            replace f1 : (wr.drewN nq).frozen? ⟨g, j, none⟩ = false := f1
            replace f2 : (wr.drewN nq).frozen? ⟨g, k, none⟩ = false := f2
            clear HV HB d1 d2
            generalize wr.drewN nq = w8 at *
            go_wp2_with fail
            have HV10 := Lib.hid ((ownN_set (ownN_set HV2.out (i := j) (by omega) x) (i := k) (by omega) i).drew)
            have HB10 := Lib.hid ((bel_set (i := k) (v := .int .i64 (i : Int)) (bel_set (i := j) (v := .int .i64 (x : Int)) HB2.out HG6.out) HG6.out).drew)
            go_region
            all_goals
              go_wp2_with fail
              go_roundw
              case rel => exact ⟨k, _, by first | rfl | (have := HJ.out; congr 1; omega), HSW.out, HV10.out, HB10.out⟩
              case measure => simp [intOf]; omega
          · have tl : decide ((EA l i).W < (EA l x).W) = false := decide_eq_false hlt
            have HD := Lib.hid (HIN.out.done (.inr (by rw [Nat.add_sub_cancel, HX.out]; exact hlt)))
            go_wp2_with fail
            go_quiet (fail)
            go_wp2_with fail
            go_roundw
            case rel => exact ⟨i + 1, out', by omega, by go_num, HD.out, by (rw [HN.out]; exact owns_drewN HV.out nq), HG7.out, bel_drewN HB.out nq⟩
            case measure => simp [intOf]; omega
    · obtain rfl : i = m := by omega
      go_wp2_with fail
      go_ret
      have hso := HSR.out
      rw [← HS.out] at hso
      have e := hso.all
      rw [← e]
      exact ⟨⟨_, rfl, HVR.out, HBR.out, HVN.out⟩⟩

end Go.Proofs.Ytenhbfbfkcjimaa
