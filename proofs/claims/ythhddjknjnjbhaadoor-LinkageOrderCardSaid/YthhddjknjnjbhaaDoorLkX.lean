/- The statements' example of the chapter. -/
import Derived.Test.YthhddjknjnjbhaaDoorLkH
import Derived.Test.YthhddjknjnjbhaaDoorLkU
import Derived.Test.YthhddjknjnjbhaaDoorLkW
namespace Go.Proofs.YthhddjknjnjbhaaDoor
set_option linter.unusedVariables false
set_option linter.unusedSimpArgs false
open Go.RowKit

def exD : List Int := [0, 2, 6, 10, 2, 0, 5, 9, 6, 5, 0, 4, 10, 9, 4, 0]
def exM : List Mg := [⟨0, 1, 2, 1, 2⟩, ⟨2, 3, 4, 1, 2⟩, ⟨0, 2, 15, 2, 4⟩]

theorem ex_check : checkL ((4 : Nat) : Int) exD = 0 := by decide +kernel
theorem ex_run : runL 4 3 exD = exM := by decide +kernel
theorem ex_bet : betL 4 exD 3 [1, 0] [2] = (11, 2, 0) := by decide +kernel
theorem ex_lab : labL 4 exM 2 = (0, [0, 0, 2, 2]) := by decide +kernel

theorem ex_i64 : ∀ x ∈ exM, I64 x.A ∧ I64 x.B ∧ I64 x.S := by
  intro x hx
  simp only [exM, List.mem_cons, List.not_mem_nil, or_false] at hx
  unfold I64
  rcases hx with rfl | rfl | rfl <;> simp

theorem run_ex (w : World) (b : Nat) (hz : InRow .i64 w (some ⟨b, 0, none⟩) 16 b 0 exD) :
    Calls Tryd.prog 10 #[.int .i64 4, .slice (some ⟨b, 0, none⟩) 16 16, .int .i64 3] w (RunPost 4 3 exD w) :=
  run_ok w 4 3 (.inr (.inr rfl)) (some ⟨b, 0, none⟩) 16 16 b 0 exD hz (fun h => by cases h) rfl (by omega) ex_check

theorem bet_ex (w : World) (b b1 b2 : Nat) (hz : InRow .i64 w (some ⟨b, 0, none⟩) 16 b 0 exD) (h1 : InRow .i64 w (some ⟨b1, 0, none⟩) 2 b1 0 [1, 0]) (h2 : InRow .i64 w (some ⟨b2, 0, none⟩) 1 b2 0 [2]) :
    Calls Tryd.prog 15 #[.int .i64 4, .slice (some ⟨b, 0, none⟩) 16 16, .int .i64 3, .slice (some ⟨b1, 0, none⟩) 2 2, .slice (some ⟨b2, 0, none⟩) 1 1] w (RetB (.tuple #[.agg #[.int .i64 11, .int .i64 2], .int .i64 0]) w) := by
  have := between_ok w 4 3 (some ⟨b, 0, none⟩) 16 16 b 0 exD hz (by omega) (some ⟨b1, 0, none⟩) (some ⟨b2, 0, none⟩) 2 1 2 1 b1 b2 0 0 [1, 0] [2] h1 h2 (by omega) (by omega)
  rw [ex_bet] at this
  exact this

theorem lab_ex (w : World) (ao : Option Addr) (cap b : Nat) (hr : MRow w ao 3 b 0 exM) (hcap : 3 ≤ cap ∧ cap ≤ 9223372036854775807) :
    Calls Tryd.prog 14 #[.int .i64 4, .slice ao 3 cap, .int .i64 2] w (LbPost (0, [0, 0, 2, 2]) w) := by
  have := labels_ok w 4 ao 3 cap b 0 exM hr (by omega) hcap (fun e => by have := hr.adr (by omega); rw [e] at this; cases this) ex_i64 2 (by unfold I64; omega) (by unfold I64; omega)
  rw [ex_lab] at this
  exact this

theorem MRow.of_blk {w : World} {b : Nat} {T : TypeId} {ms : List Mg} (h : Blk w b T (ms.flatMap Mg.cells)) : MRow w (some ⟨b, 0, none⟩) ms.length b 0 ms := by
  refine ⟨rfl, fun _ => rfl, fun i hi => ?_⟩
  have key : ∀ j u, j < 5 → (ms.getD i mg0).cells[j]? = some u → w.cell? ⟨b, i * 5 + j, none⟩ = some u := fun j u hj hu => h.cell (by rw [cells_at ms i j hi hj]; exact hu)
  rw [Nat.zero_add]
  exact ⟨key 0 _ (by omega) rfl, key 1 _ (by omega) rfl, key 2 _ (by omega) rfl, key 3 _ (by omega) rfl, key 4 _ (by omega) rfl⟩

set_option maxHeartbeats 8000000 in
set_option maxRecDepth 100000 in
theorem works_ok (w : World) : Calls Tryd.prog 13 #[] w (RetB (.bool true) w) := by
  go_enter Tryd.func13, Tryd.ntmps13
  go_wp2_with fail
  generalize hW : World.alloc w _ = W
  have HD : Hid (InRow .i64 W (some ⟨w.heap.size, 0, none⟩) 16 w.heap.size 0 exD) := by
    show InRow _ _ _ _ _ _ _
    rw [← hW]; exact InRow.of_blk (z := exD) (Blk.new w 2 (exD.map fun x => .int .i64 x))
  have HB : Hid (Below w.heap.size w W) := by show Below _ _ _; rw [← hW]; exact (Below.refl _ _).alloc (Nat.le_refl _) _
  clear hW
  with_reducible refine (run_ex W w.heap.size HD.out).mono ?_
  rintro e w1 ⟨v, rfl, ho, hb1, hn⟩
  rw [ex_run] at ho
  obtain ⟨ao, cap, rb, rfl, hr, hcap, hrb⟩ := MRow.of_owns (ms := exM) ho
  have HR := Lib.hid hr
  have hl3 : exM.length = 3 := rfl
  rw [hl3] at hcap HR ⊢
  have HCAP : Hid (cap ≤ 9223372036854775807) := by
    obtain ⟨g, cap', e, _, hc2, _⟩ := owns_form ho (by decide)
    have : cap = cap' := by injection e
    show cap ≤ _
    rw [this]
    unfold maxLen at hc2
    exact hc2
  have HD1 := Lib.hid (HD.out.below hb1)
  have HB1 := Lib.hid (bel_then HB.out (hb1.mono (Nat.le_refl _)))
  clear ho hb1 hn hr hrb hl3 HD HB
  go_wp2_with fail
  generalize hW2 : World.alloc (World.alloc (World.alloc w1 _) _) _ = W2
  have HWANT : Hid (MRow W2 (some ⟨w1.heap.size, 0, none⟩) 3 w1.heap.size 0 exM) := by
    show MRow _ _ _ _ _ _
    rw [← hW2]; exact MRow.of_blk (ms := exM) (((Blk.new w1 35 (exM.flatMap Mg.cells)).alloc _).alloc _)
  have H1 : Hid (InRow .i64 W2 (some ⟨w1.heap.size + 1, 0, none⟩) 2 (w1.heap.size + 1) 0 [1, 0]) := by
    show InRow _ _ _ _ _ _ _
    rw [← hW2]; exact InRow.of_blk (z := [1, 0]) ((Blk.new' _ 3 [.int .i64 1, .int .i64 0] (by simp)).alloc _)
  have H2 : Hid (InRow .i64 W2 (some ⟨w1.heap.size + 1 + 1, 0, none⟩) 1 (w1.heap.size + 1 + 1) 0 [2]) := by
    show InRow _ _ _ _ _ _ _
    rw [← hW2]; exact InRow.of_blk (z := [2]) (Blk.new' _ 3 [.int .i64 2] (by simp))
  have hbw : Below w1.heap.size w1 W2 := by rw [← hW2]; exact (((Below.refl _ _).alloc (Nat.le_refl _) _).alloc (by simp) _).alloc (by simp; omega) _
  have HD2 := Lib.hid (HD1.out.below hbw)
  have HR2 := Lib.hid (HR.out.below hbw)
  have HB2 := Lib.hid (bel_then HB1.out hbw)
  clear hW2 hbw HD1 HR HB1
  with_reducible refine (bet_ex W2 w.heap.size (w1.heap.size + 1) (w1.heap.size + 1 + 1) HD2.out H1.out H2.out).mono ?_
  rintro e w3 ⟨rfl, hb3⟩
  have hb3' := bel_then hb3 ((Below.refl w3.heap.size w3).alloc (Nat.le_refl _) (.cells #[.int .i64 11, .int .i64 2] 33))
  have HR3 := Lib.hid (HR2.out.below hb3')
  have HW3 := Lib.hid (HWANT.out.below hb3')
  have HB3 := Lib.hid (bel_then HB2.out hb3')
  have HX3 := Lib.hid (Blk.new w3 33 [.int .i64 11, .int .i64 2])
  clear hb3 hb3' HR2 HWANT HB2 H1 H2 HD2
  go_wp2_with fail
  generalize hW4 : World.alloc w3 _ = W4 at *
  clear hW4
  with_reducible refine (lab_ex W4 ao cap rb HR3.out ⟨hcap, HCAP.out⟩).mono ?_
  rintro e w5 ⟨⟨lo, ll, lc, lbk, rfl, hlr, _⟩, hb5⟩
  have HR5 := Lib.hid (HR3.out.below hb5)
  have HW5 := Lib.hid (HW3.out.below hb5)
  have HB5 := Lib.hid (bel_then HB3.out hb5)
  have HX5 := Lib.hid (HX3.out.below hb5 HX3.out.lt)
  have hll : ll = 4 := hlr.size.symm
  subst hll
  have HL5 := Lib.hid hlr
  clear hb5 hlr HR3 HW3 HB3 HX3
  go_wp2_with fail
  with_reducible refine (same_ok w5 ao (some ⟨w1.heap.size, 0, none⟩) 3 cap 3 rb w1.heap.size 0 0 exM HR5.out HW5.out (by omega)).mono ?_
  rintro e w6 ⟨rfl, hb6⟩
  have HX6 := Lib.hid (HX5.out.below hb6 HX5.out.lt)
  have HL6 := Lib.hid (HL5.out.below hb6)
  have HB6 := Lib.hid (bel_then HB5.out hb6)
  have x0 := HX6.out.cell (i := 0) rfl
  have x1 := HX6.out.cell (i := 1) rfl
  clear hb6 HX5 HL5 HB5 HR5 HW5
  go_wp2_with fail
  generalize hW7 : World.alloc w6 _ = W7
  have HA7 : Hid (InRow .i64 W7 (some ⟨w6.heap.size, 0, none⟩) 4 w6.heap.size 0 [0, 0, 2, 2]) := by
    show InRow _ _ _ _ _ _ _
    rw [← hW7]; exact InRow.of_blk (z := [0, 0, 2, 2]) (Blk.new w6 3 [.int .i64 0, .int .i64 0, .int .i64 2, .int .i64 2])
  have hb7 : Below w6.heap.size w6 W7 := by rw [← hW7]; exact (Below.refl _ _).alloc (Nat.le_refl _) _
  have HL7 := Lib.hid (HL6.out.below hb7)
  have HB7 := Lib.hid (bel_then HB6.out hb7)
  clear hW7 hb7 x0 x1 HX6 HL6 HB6
  with_reducible refine (alike_ok W7 lo (some ⟨w6.heap.size, 0, none⟩) 4 lc 4 lbk w6.heap.size 0 0 [0, 0, 2, 2] HL7.out HA7.out (by omega)).mono ?_
  rintro e w8 ⟨rfl, hb8⟩
  have HB8 := Lib.hid (bel_then HB7.out hb8)
  clear hb8
  go_wp2_with fail
  go_ret
  exact ⟨rfl, HB8.out⟩

end Go.Proofs.YthhddjknjnjbhaaDoor
