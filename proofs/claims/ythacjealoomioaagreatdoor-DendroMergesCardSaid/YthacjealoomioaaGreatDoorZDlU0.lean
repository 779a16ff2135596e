/- DlU0. -/
import Derived.Test.YthacjealoomioaaGreatDoorZDlA
import Derived.Test.YthacjealoomioaaGreatDoorZGs
import Derived.Test.YthacjealoomioaaGreatDoorZGl2
/- Rows of labels; cophenetic heights in numbers. -/
namespace Go.Proofs.YthacjealoomioaaGreatDoor
set_option linter.unusedVariables false
set_option linter.unusedSimpArgs false
open Go.RowKit

theorem run_max64 (x y : Int) (w : World) : (Builtin.max_ #[2, 2] 2 #[Value.int IntKind.i64 x, .int .i64 y]).run Tryz.prog w = .ok (.int .i64 (max x y)) w := by
  by_cases h : x < y
  · have h2 : ¬ y < x := by omega
    simp [go_sem, h, h2]
    try omega
  · by_cases h2 : y < x
    · simp [go_sem, h, h2]
      try omega
    · have : x = y := by omega
      subst this
      simp [go_sem]
theorem tmodN3 {a b : Nat} (hb : 0 < b) : ∃ q : Nat, Int.tmod (a : Int) (b : Int) = (q : Int) ∧ q < b := ⟨a % b, by rw [Int.tmod_eq_emod_of_nonneg (by omega)]; rfl, Nat.mod_lt _ hb⟩

/-- A row of labels. -/
structure LbRow (w : World) (a : Option Addr) (b n : Nat) (K : List Nat) : Prop where
  adr : 0 < n → a = some ⟨b, 0, none⟩
  cell : ∀ i, i < n → w.cell? ⟨b, i, none⟩ = some (.int .i64 ((K.getD i 0 : Nat) : Int))
theorem LbRow.below {w w' : World} {a : Option Addr} {b n : Nat} {K : List Nat} (h : LbRow w a b n K) (hb : Below w.heap.size w w') : LbRow w' a b n K :=
  ⟨h.adr, fun i hi => (hb.cell (World.block_lt_of_cell? w _ (h.cell i hi))).trans (h.cell i hi)⟩
theorem LbRow.of_owns {w : World} {T : TypeId} {v : Value} {n : Nat} {K : List Nat} (h : w.ownsRow 0 T 1 v n (natV K)) (hl : K.length = n) : ∃ a c b, v = .slice a n c ∧ LbRow w a b n K := by
  obtain ⟨a, c, b, rfl, hin, _⟩ := own_rowN h hl
  refine ⟨a, c, b, rfl, ⟨hin.adr, fun i hi => ?_⟩⟩
  have := hin.cell i hi
  rw [Nat.zero_add, nI_at (by omega)] at this
  exact this
theorem LbRow.row {w : World} {a : Option Addr} {b n : Nat} {K : List Nat} (h : LbRow w a b n K) (hl : K.length = n) : InRow .i64 w a n b 0 (nI K) :=
  ⟨by rw [nI_len, hl], h.adr, fun i hi => by rw [Nat.zero_add, nI_at (by omega)]; exact h.cell i hi⟩

theorem GObj.n_ok {w : World} {g n : Nat} {L : List Ed} (h : GObj w g n L) (hn : n ≤ 65536) : Calls Tryz.prog 27 #[.pointer (some ⟨g, 0, none⟩)] w (Ret (.int .i64 n) w) := by
  obtain ⟨ao, cap, b, sb, lb, h1, h2⟩ := h.ex
  exact gN_ok g sb n w hn (h1.cell (i := 0) rfl) (h1.cell (i := 2) rfl)

theorem cop_cph {n m : Nat} {L : List Ed} {T : Tr} {ls : List Nat} (h : GTree n m L T ls) {a b : Nat} (ha : a < n) (hb : b < n) : copO T (a : Int) (b : Int) = cph T m a b := by
  unfold copO
  rw [h.ls]
  simp only
  rw [if_neg (by rw [h.tv.lv]; omega), h.tv.pl, Int.toNat_natCast, Int.toNat_natCast]
  unfold cph
  by_cases c : a = b
  · subst c
    rw [if_pos rfl, if_pos rfl]
  · rw [if_neg c, if_neg (by omega)]

theorem keep4B {w w' : World} {p1 p2 p3 p4 : Addr} {v1 v2 v3 v4 : Value} (h1 : Hid (w.cell? p1 = some v1)) (h2 : Hid (w.cell? p2 = some v2)) (h3 : Hid (w.cell? p3 = some v3)) (h4 : Hid (w.cell? p4 = some v4)) (hb : Below w.heap.size w w') :
    w'.cell? p1 = some v1 ∧ w'.cell? p2 = some v2 ∧ w'.cell? p3 = some v3 ∧ w'.cell? p4 = some v4 ∧ Below w.heap.size w w' :=
  ⟨(hb.cell (World.block_lt_of_cell? w _ h1.out)).trans h1.out, (hb.cell (World.block_lt_of_cell? w _ h2.out)).trans h2.out, (hb.cell (World.block_lt_of_cell? w _ h3.out)).trans h3.out, (hb.cell (World.block_lt_of_cell? w _ h4.out)).trans h4.out, hb⟩

end Go.Proofs.YthacjealoomioaaGreatDoor
