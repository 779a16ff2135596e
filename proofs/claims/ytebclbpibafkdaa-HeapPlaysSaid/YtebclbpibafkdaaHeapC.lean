/- The heap's above and below: what they return. -/
import Derived.Test.YtebclbpibafkdaaHeapB
namespace Go.Proofs.Ytebclbpibafkdaa
set_option linter.unusedVariables false
set_option linter.unusedSimpArgs false
open Go.RowKit

def aboveV (it : List Ent) (p : Nat) : Int := if 0 < p ∧ elt (ent it p) (ent it (par p)) then (par p : Int) else -1

theorem RetB.of_eq {v v' : Value} {w w' : World} (h : v = v') (hb : Below w.heap.size w w') : RetB v' w (.returned v) w' := ⟨by rw [h], hb⟩

/-- The cells of a place of the items. -/
theorem HRep.at {w : World} {g : HG} (hr : HRep w g) {p : Nat} (hp : p < g.it.length) : ∃ ib cap, g.iv = .slice (some ⟨ib, 0, none⟩) g.it.length cap ∧ g.it.length ≤ cap ∧ cap ≤ maxLen ∧ ib < w.heap.size ∧
    w.cell? ⟨g.b, 2, none⟩ = some (.slice (some ⟨ib, 0, none⟩) g.it.length cap) ∧
    ∀ q, q < g.it.length → w.cell? ⟨ib, q * 2, none⟩ = some (.int .i64 (ent g.it q).1) ∧ w.cell? ⟨ib, q * 2 + 1, none⟩ = some (.int .i64 (ent g.it q).2) := by
  obtain ⟨ib, cap, hv, hc1, hc2, hlt, hcell, hfree⟩ := owns_form hr.hi (by omega)
  have h0 := hr.hb.cell (i := 2) rfl
  rw [hv] at h0
  exact ⟨ib, cap, hv, hc1, hc2, hlt, h0, fun q hq => ⟨(hcell (q * 2) (by omega)).trans (ents_get0 _ _ hq), (hcell (q * 2 + 1) (by omega)).trans (ents_get1 _ _ hq)⟩⟩

set_option maxRecDepth 100000 in
set_option maxHeartbeats 1000000 in
theorem above_zero (w : World) (g : HG) :
    Calls Try.prog 98 #[.pointer (some ⟨g.b, 0, none⟩), .int .i64 0] w (RetB (.int .i64 (-1)) w) := by
  go_enter Try.func98, Try.ntmps98
  go_wp2_with fail
  go_quiet (fail)
  go_wp2_with fail
  go_ret
  exact ⟨rfl, bel_drewN (Below.refl _ _) _⟩

set_option maxRecDepth 100000 in
set_option maxHeartbeats 1000000 in
theorem above_pos (w : World) (g : HG) (hr : HRep w g) (hlen : g.it.length ≤ 65536) (p : Nat) (hp : p < g.it.length) (h0 : 0 < p) :
    Calls Try.prog 98 #[.pointer (some ⟨g.b, 0, none⟩), .int .i64 p] w (RetB (.int .i64 (aboveV g.it p)) w) := by
  obtain ⟨ib, cap, hv, hc1, hc2, hlt, hs, hcell⟩ := hr.at hp
  have hpar : par p < g.it.length := by unfold par; omega
  obtain ⟨p0, p1⟩ := hcell p hp
  obtain ⟨q0, q1⟩ := hcell _ hpar
  have e1 : ((p : Int) - 1) / 2 = (par p : Nat) := by unfold par; omega
  have HA : Hid (aboveV g.it p = if ordI (ent g.it p) (ent g.it (par p)) < 0 then (par p : Int) else -1) := by
    show _ = _
    unfold aboveV
    simp only [ordI_neg, h0, true_and]
  generalize aboveV g.it p = r at *
  generalize ent g.it p = x at *
  generalize ent g.it (par p) = y at *
  generalize par p = q at *
  generalize g.it.length = n at *
  clear hcell hv hr
  go_enter Try.func98, Try.ntmps98
  go_wp2_with fail
  refine region_tail 17 (by kernel_rfl) (by kernel_rfl) ?_
  intro w2 hw2
  have HB : Hid (Below w.heap.size w w2) := by rw [hw2]; exact (Below.refl _ _).drew
  have hs' : w2.cell? ⟨g.b, 2, none⟩ = some (.slice (some ⟨ib, 0, none⟩) n cap) := by rw [hw2]; exact hs
  have p0' : w2.cell? ⟨ib, p * 2, none⟩ = some (.int .i64 x.1) := by rw [hw2]; exact p0
  have p1' : w2.cell? ⟨ib, p * 2 + 1, none⟩ = some (.int .i64 x.2) := by rw [hw2]; exact p1
  have q0' : w2.cell? ⟨ib, q * 2, none⟩ = some (.int .i64 y.1) := by rw [hw2]; exact q0
  have q1' : w2.cell? ⟨ib, q * 2 + 1, none⟩ = some (.int .i64 y.2) := by rw [hw2]; exact q1
  clear hw2 hs p0 p1 q0 q1
  simp only [List.take_succ_cons, List.take_zero, List.drop_succ_cons, List.drop_zero]
  repeat still_step
  refine wpStill_nil ?_
  clear hs' p0' p1' q0' q1'
  by_cases hl : ordI x y < 0
  · have HL := Lib.hid hl
    have hd : decide (ordI x y < 0) = true := by simp [hl]
    clear hl
    go_wp2_with (go_at_call 76; refine (order_any x.1 y.1 x.2 y.2 _).mono ?_; rintro e w' ⟨rfl, hb⟩; have HBB := Lib.hid hb; clear hb; change decide (ordI (x.1, x.2) (y.1, y.2) < 0) = true at hd)
    go_ret
    exact RetB.of_eq (by rw [HA.out, if_pos HL.out]; rfl) (HB.out.trans (HBB.out.mono HB.out.size))
  · have HL := Lib.hid hl
    have hd : decide (ordI x y < 0) = false := by simp [hl]
    clear hl
    go_wp2_with (go_at_call 76; refine (order_any x.1 y.1 x.2 y.2 _).mono ?_; rintro e w' ⟨rfl, hb⟩; have HBB := Lib.hid hb; clear hb; change decide (ordI (x.1, x.2) (y.1, y.2) < 0) = false at hd)
    go_ret
    exact RetB.of_eq (by rw [HA.out, if_neg (by have := HL.out; omega)]; rfl) (HB.out.trans (HBB.out.mono HB.out.size))

theorem above_rep (w : World) (g : HG) (hr : HRep w g) (hlen : g.it.length ≤ 65536) (p : Nat) (hp : p < g.it.length) :
    Calls Try.prog 98 #[.pointer (some ⟨g.b, 0, none⟩), .int .i64 p] w (RetB (.int .i64 (aboveV g.it p)) w) := by
  by_cases h0 : 0 < p
  · exact above_pos w g hr hlen p hp h0
  · obtain rfl : p = 0 := by omega
    have : aboveV g.it 0 = -1 := by simp [aboveV]
    rw [this]
    exact above_zero w g

def fk (it : List Ent) (p : Nat) : Nat → Nat
  | 0 => p
  | 1 => bel1 it p
  | _ => bel2 it p

theorem fk_step (it : List Ent) (p k : Nat) (hk : k < 2) : fk it p (k + 1) = if 2 * p + 1 + k < it.length ∧ elt (ent it (2 * p + 1 + k)) (ent it (fk it p k)) then 2 * p + 1 + k else fk it p k := by
  obtain rfl | rfl : k = 0 ∨ k = 1 := by omega
  · rfl
  · rfl

theorem fk_lt {it : List Ent} {p : Nat} (hp : p < it.length) (k : Nat) : fk it p k < it.length := by
  have h1 : bel1 it p < it.length := by unfold bel1; split <;> omega
  match k with
  | 0 => exact hp
  | 1 => exact h1
  | k + 2 => show bel2 it p < _; unfold bel2; split <;> omega

def belowV (it : List Ent) (p : Nat) : Int := if bel2 it p = p then -1 else (bel2 it p : Int)

set_option maxRecDepth 100000 in
set_option maxHeartbeats 2000000 in
theorem below_rep (w : World) (g : HG) (hr : HRep w g) (hlen : g.it.length ≤ 65536) (p : Nat) (hp : p < g.it.length) :
    Calls Try.prog 99 #[.pointer (some ⟨g.b, 0, none⟩), .int .i64 p] w (RetB (.int .i64 (belowV g.it p)) w) := by
  have HR := Lib.hid hr
  clear hr
  go_enter Try.func99, Try.ntmps99
  go_wp2_with fail
  go_loopw [5, 9] (fun f i wr => ∃ k : Nat, k ≤ 2 ∧ i = .int .i64 k ∧ f = .int .i64 (fk g.it p k : Nat) ∧ Below w.heap.size w wr) (fun _ i _ => 2 - (intOf i).toNat)
  case atStart => exact ⟨0, by omega, rfl, rfl, Below.refl _ _⟩
  case round =>
    obtain ⟨k, hk, rfl, rfl, hb⟩ := hrel
    have hr := HR.out.below hb
    obtain ⟨ib, cap, hv, hc1, hc2, hlt, hs, hcell⟩ := hr.at hp
    have hfl := fk_lt hp k
    have HB := Lib.hid hb
    by_cases hk2 : k < 2
    · have hstep := fk_step g.it p k hk2
      have HS := Lib.hid hstep
      obtain ⟨f0, f1⟩ := hcell _ hfl
      by_cases hq : 2 * p + 1 + k < g.it.length
      · obtain ⟨q0, q1⟩ := hcell _ hq
        have HS2 : Hid (fk g.it p (k + 1) = if ordI (ent g.it (2 * p + 1 + k)) (ent g.it (fk g.it p k)) < 0 then 2 * p + 1 + k else fk g.it p k) := by
          show _ = _
          rw [hstep]
          simp only [ordI_neg, hq, true_and]
        clear hstep HS hcell hr hb hv
        generalize fk g.it p k = f at *
        generalize ent g.it (2 * p + 1 + k) = x at *
        generalize ent g.it f = y at *
        go_wp2_with fail
        refine region_tail 22 (by kernel_rfl) (by kernel_rfl) ?_
        intro w2 hw2
        have HB2 : Hid (Below w.heap.size w w2) := by rw [hw2]; exact HB.out.drew
        have hs' : w2.cell? ⟨g.b, 2, none⟩ = some (.slice (some ⟨ib, 0, none⟩) g.it.length cap) := by rw [hw2]; exact hs
        have p0' : w2.cell? ⟨ib, (2 * p + 1 + k) * 2, none⟩ = some (.int .i64 x.1) := by rw [hw2]; exact q0
        have p1' : w2.cell? ⟨ib, (2 * p + 1 + k) * 2 + 1, none⟩ = some (.int .i64 x.2) := by rw [hw2]; exact q1
        have q0' : w2.cell? ⟨ib, f * 2, none⟩ = some (.int .i64 y.1) := by rw [hw2]; exact f0
        have q1' : w2.cell? ⟨ib, f * 2 + 1, none⟩ = some (.int .i64 y.2) := by rw [hw2]; exact f1
        clear hw2 hs f0 f1 q0 q1 HB
        simp only [List.take_succ_cons, List.take_zero, List.drop_succ_cons, List.drop_zero]
        have qi : 2 * (p : Int) + 1 + (k : Int) < (g.it.length : Int) := by omega
        have q0 : (0 : Int) ≤ 2 * (p : Int) + 1 + (k : Int) := by omega
        have qn : (2 * (p : Int) + 1 + (k : Int)).toNat = 2 * p + 1 + k := by omega
        have fi : (f : Int) < (g.it.length : Int) := by omega
        repeat still_step
        refine wpStill_nil ?_
        clear hs' p0' p1' q0' q1' qi q0 qn fi
        by_cases hl : ordI x y < 0
        · have HL := Lib.hid hl
          have hd : decide (ordI x y < 0) = true := by simp [hl]
          clear hl
          go_wp2_with (go_at_call 76; refine (order_any x.1 y.1 x.2 y.2 _).mono ?_; rintro e w' ⟨rfl, hb⟩; have HBB := Lib.hid hb; clear hb; change decide (ordI (x.1, x.2) (y.1, y.2) < 0) = true at hd)
          go_roundw
          case rel => exact ⟨k + 1, by omega, by go_num, by rw [HS2.out, if_pos HL.out]; go_num, HB2.out.trans (HBB.out.mono HB2.out.size)⟩
          case measure => simp [intOf]; omega
        · have HL := Lib.hid hl
          have hd : decide (ordI x y < 0) = false := by simp [hl]
          clear hl
          go_wp2_with (go_at_call 76; refine (order_any x.1 y.1 x.2 y.2 _).mono ?_; rintro e w' ⟨rfl, hb⟩; have HBB := Lib.hid hb; clear hb; change decide (ordI (x.1, x.2) (y.1, y.2) < 0) = false at hd)
          go_roundw
          case rel => exact ⟨k + 1, by omega, by go_num, by rw [HS2.out, if_neg (by have := HL.out; omega)], HB2.out.trans (HBB.out.mono HB2.out.size)⟩
          case measure => simp [intOf]; omega
      · have HS2 : Hid (fk g.it p (k + 1) = fk g.it p k) := by
          show _ = _
          rw [hstep, if_neg (fun h => hq h.1)]
        clear hstep HS hcell hr hb hv f0 f1
        generalize fk g.it p k = f at *
        have qi : decide (2 * (p : Int) + 1 + (k : Int) < (g.it.length : Int)) = false := by simp; omega
        go_wp2_with fail
        go_quiet (fail)
        go_wp2_with fail
        go_roundw
        case rel => exact ⟨k + 1, by omega, by go_num, by rw [HS2.out], bel_drewN HB.out _⟩
        case measure => simp [intOf]; omega
    · obtain rfl : k = 2 := by omega
      clear hcell hr hb hv hs
      have HV : Hid (belowV g.it p = if fk g.it p 2 = p then -1 else (fk g.it p 2 : Int)) := rfl
      generalize belowV g.it p = r at *
      generalize fk g.it p 2 = f at *
      by_cases hf : f = p
      · have hd : ((f : Int) == (p : Int)) = true := by simp [hf]
        have HF := Lib.hid hf
        clear hf
        go_wp2_with fail
        go_ret
        exact RetB.of_eq (by rw [HV.out, if_pos HF.out]; rfl) HB.out
      · have hd : ((f : Int) == (p : Int)) = false := by simp; omega
        have HF := Lib.hid hf
        clear hf
        go_wp2_with fail
        go_ret
        exact RetB.of_eq (by rw [HV.out, if_neg HF.out]; rfl) HB.out

end Go.Proofs.Ytebclbpibafkdaa
