/- The statements' filled heap. -/
import Derived.Test.YtebclbpibafkdaaHeapH
import Derived.Test.YtebclbpibafkdaaFillP
namespace Go.Proofs.Ytebclbpibafkdaa
set_option linter.unusedVariables false
set_option linter.unusedSimpArgs false
open Go.RowKit

/-- A slice of numbers that came in: where it has elements it leads to their cells. -/
structure InRow (k : IntKind) (w : World) (ao : Option Addr) (len : Nat) (b off : Nat) (z : List Int) : Prop where
  size : z.length = len
  adr : 0 < len → ao = some ⟨b, off, none⟩
  cell : ∀ i, i < len → w.cell? ⟨b, off + i, none⟩ = some (.int k (z.getD i 0))

theorem InRow.lt {k : IntKind} {w : World} {ao : Option Addr} {len b off : Nat} {z : List Int} (h : InRow k w ao len b off z) (hl : 0 < len) : b < w.heap.size :=
  World.block_lt_of_cell? w _ (h.cell 0 hl)

theorem InRow.below {k : IntKind} {w w' : World} {ao : Option Addr} {len b off : Nat} {z : List Int} (h : InRow k w ao len b off z) (hb : Below w.heap.size w w') : InRow k w' ao len b off z :=
  ⟨h.size, h.adr, fun i hi => (hb.cell (h.lt (by omega))).trans (h.cell i hi)⟩

theorem inRow_of {k : IntKind} {w : World} {a : Option Addr} {len cap : Nat} {zs : List Int}
    (h : (a = none ∧ len = 0 ∧ cap = 0 ∧ zs = []) ∨
      ∃ x, a = some x ∧ len ≤ cap ∧ cap ≤ maxLen ∧ zs.length = cap ∧ (∀ i, i < zs.length → w.cell? (x.add i) = some (.int k (zs.getD i 0))) ∧ ∀ n ∈ zs, (Lit.int k n).wf = true) :
    len ≤ 9223372036854775807 ∧ ∃ b off, InRow k w a len b off (zs.take len) ∧ ∀ n ∈ zs.take len, (Lit.int k n).wf = true := by
  rcases h with ⟨rfl, rfl, rfl, rfl⟩ | ⟨x, rfl, h1, h2, h3, h4, h5⟩
  · exact ⟨by omega, 0, 0, ⟨by simp, by omega, by omega⟩, by simp⟩
  · refine ⟨by unfold maxLen at h2; omega, x.block, x.off, ⟨by rw [List.length_take]; omega, fun h0 => ?_, fun i hi => ?_⟩, fun n hn => h5 n (List.mem_of_mem_take hn)⟩
    · have := h4 0 (by omega)
      have hx : x.add 0 = x := by simp [Addr.add]
      rw [hx] at this
      obtain ⟨b, o, s⟩ := x
      cases s with
      | none => rfl
      | some s =>
        simp only [World.cell?] at this
        split at this <;> simp at this
    · have h6 := h4 0 (by omega)
      have hx : x.add 0 = x := by simp [Addr.add]
      rw [hx] at h6
      have hs : x.spot = none := by
        cases hs : x.spot with
        | none => rfl
        | some s =>
          simp only [World.cell?] at h6
          split at h6 <;> simp [hs] at h6
      have h7 := h4 i (by omega)
      have ha : x.add i = ⟨x.block, x.off + i, none⟩ := by
        obtain ⟨b, o, s⟩ := x
        simp only at hs
        subst hs
        unfold Addr.add
        split
        · subst_vars; rfl
        · rfl
      rw [ha] at h7
      rw [h7]
      congr 2
      simp [List.getD, List.getElem?_take, hi]

theorem push_okI (w : World) (b slots : Nat) (S : List Ent) (g : HG) (h : HObj w b slots S g) (iv key : Int) (i : Nat) (hiv : iv = (i : Int)) (hi : i < slots) (hn : ∀ e ∈ S, e.1 ≠ (i : Int)) :
    Calls Try.prog 49 #[.pointer (some ⟨b, 0, none⟩), .int .i64 iv, .int .i64 key] w
      (HDone (.int .i64 0) w b slots (ins ((i : Int), key) S) g) := by
  subst hiv; exact push_ok w b slots S g h i key hi hn

structure FilledPost (z : List Int) (w : World) (e : Ending) (w' : World) : Prop where
  bel : Below w.heap.size w w'
  out : ∃ b g, HObj w' b 300 (sortE (pairs z)) g ∧ (∀ k, g.foot k → w.heap.size ≤ k) ∧ e = .returned (.pointer (some ⟨b, 0, none⟩))

set_option maxHeartbeats 4000000 in
set_option maxRecDepth 100000 in
theorem filled04 (ao : Option Addr) (len cap b off : Nat) (z : List Int) (back : Bool) (w : World) (hz : InRow .i64 w ao len b off z) (hl : len ≤ 300) :
    Calls Try.prog 22 #[.slice ao len cap, .bool back] w (FilledPost z w) := by
  have HZ := Lib.hid hz
  clear hz
  go_enter Try.func22, Try.ntmps22
  go_wp2_with fail
  refine (new_obj 300 w (by omega)).mono ?_
  rintro e w1 ⟨hb1, hb, g, ho, hf, rfl⟩
  have HO := Lib.hid ho
  have HB := Lib.hid hb1
  have HF := Lib.hid hf
  clear ho hb1 hf
  go_wp2_with fail
  go_loopw [7, 8] (fun s _ wr => ∃ (k : Nat) (g : HG), k ≤ len ∧ s = .int .i64 k ∧ HObj wr hb 300 (sortE (part z back k)) g ∧ Below w.heap.size w wr ∧ (∀ x, g.foot x → w.heap.size ≤ x)) (fun s _ _ => len - (intOf s).toNat)
  case atStart => exact ⟨0, g, by omega, rfl, by rw [part_zero]; exact HO.out, HB.out, HF.out⟩
  case round =>
    obtain ⟨k, g, hk, rfl, ho, hb1, hf⟩ := hrel
    have HO := Lib.hid ho
    have HB := Lib.hid hb1
    have HF := Lib.hid hf
    clear ho hf
    by_cases hlt : k < len
    · obtain rfl := HZ.out.adr (by omega)
      have hzl := HZ.out.size
      have hi : (if back then z.length - 1 - k else k) < len := by split <;> omega
      have hc := (hb1.cell (p := ⟨b, off + (if back then z.length - 1 - k else k), none⟩) (HZ.out.lt (by omega))).trans (HZ.out.cell _ hi)
      have hnew := Lib.hid (part_new z back k (by omega))
      have hstp := Lib.hid (part_step z back k (by omega))
      clear hb1
      cases back with
      | false =>
        simp only [Bool.false_eq_true, if_false] at hi hc hnew hstp
        generalize z.getD k 0 = x at hc hstp
        go_wp2_with fail
        with_reducible refine (push_ok wr hb 300 _ g HO.out k x (by omega) hnew.out).mono ?_
        rintro e w2 ⟨rfl, g2, ho2, hm2, hf2⟩
        rw [hstp.out] at ho2
        have HO2 := Lib.hid ho2
        have HB2 : Hid (Below w.heap.size w w2) := HB.out.trans (hm2.below HB.out.size HF.out)
        have HF2 : Hid (∀ k, g2.foot k → w.heap.size ≤ k) := fun k hk => by
          have := HB.out.size
          rcases hf2 k hk with a | a
          · exact HF.out k a
          · omega
        clear ho2 hm2 hf2 hc
        go_wp2_with fail
        go_roundw
        case rel => exact ⟨k + 1, g2, by omega, by go_num, HO2.out, HB2.out, HF2.out⟩
        case measure => simp [intOf]; omega
      | true =>
        simp only [if_true] at hi hc hnew hstp
        rw [hzl] at hi hc hnew hstp
        generalize z.getD (len - 1 - k) 0 = x at hc hstp
        go_wp2_with fail
        with_reducible refine (push_okI wr hb 300 _ g HO.out _ x (len - 1 - k) (by omega) (by omega) hnew.out).mono ?_
        rintro e w2 ⟨rfl, g2, ho2, hm2, hf2⟩
        rw [hstp.out] at ho2
        have HO2 := Lib.hid ho2
        have HB2 : Hid (Below w.heap.size w w2) := HB.out.trans (hm2.below HB.out.size HF.out)
        have HF2 : Hid (∀ k, g2.foot k → w.heap.size ≤ k) := fun k hk => by
          have := HB.out.size
          rcases hf2 k hk with a | a
          · exact HF.out k a
          · omega
        clear ho2 hm2 hf2 hc
        go_wp2_with fail
        go_roundw
        case rel => exact ⟨k + 1, g2, by omega, by go_num, HO2.out, HB2.out, HF2.out⟩
        case measure => simp [intOf]; omega
    · obtain rfl : k = len := by omega
      clear hb1
      go_wp2_with fail
      go_ret
      refine ⟨HB.out, hb, g, ?_, HF.out, rfl⟩
      have := HO.out
      rw [← HZ.out.size, part_all] at this
      exact this

end Go.Proofs.Ytebclbpibafkdaa
