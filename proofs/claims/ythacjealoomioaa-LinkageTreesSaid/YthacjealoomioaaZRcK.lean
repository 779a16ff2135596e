/- slices.Clone of numbers and of edges. -/
import Derived.Test.YthacjealoomioaaZRcA
import Derived.Test.YthacjealoomioaaProg
namespace Go.Proofs.Ythacjealoomioaa
set_option linter.unusedVariables false
set_option linter.unusedSimpArgs false
open Go.RowKit

theorem Try.infoInt : (Try.prog.info? 3).map (fun i => (i.zero, i.size, i.bytes)) = some (some (.int .i64 0), 1, 8) := by kernel_rfl
theorem Try.infoEdge : (Try.prog.info? 27).map (fun i => (i.zero, i.size, i.bytes)) = some (some (.agg #[.int .i64 0, .int .i64 0, .int .i64 0]), 3, 24) := by kernel_rfl

/-- A new row. -/
structure NewRow (w : World) (T : TypeId) (size n : Nat) (cs : List Value) (v : Value) (w' : World) : Prop where
  own : w'.ownsRow 0 T size v n cs
  bel : Below w.heap.size w w'
  new : ∀ k, v.ownBlock = some k → w.heap.size ≤ k

structure RowPost (w : World) (T : TypeId) (size n : Nat) (cs : List Value) (e : Ending) (w' : World) : Prop where
  out : ∃ v, e = .returned v ∧ NewRow w T size n cs v w'

/-- A slice whose cells are cs. -/
structure Src (w : World) (ao : Option Addr) (m cap size : Nat) (cs : List Value) : Prop where
  len : cs.length = m * size
  cell : ∀ ad, ao = some ad → ∀ j u, cs[j]? = some u → w.cell? (ad.add j) = some u
  nil : ao = none → m = 0 ∧ cap = 0
  one : ∀ u ∈ cs, u.oneCell' = true

theorem add_mk (b off j : Nat) : (⟨b, off, none⟩ : Addr).add j = ⟨b, off + j, none⟩ := by
  unfold Addr.add; split <;> simp_all

theorem Src.of_row {w : World} {ao : Option Addr} {m cap b off : Nat} {z : List Int} (h : InRow .i64 w ao m b off z) (hn : ao = none → cap = 0) : Src w ao m cap 1 (z.map fun x => .int .i64 x) := by
  refine ⟨by simp [h.size], fun ad he j u hu => ?_, fun he => ⟨?_, hn he⟩, fun u hu => ?_⟩
  · have hj : j < m := by have := (List.getElem?_eq_some_iff.1 hu).1; simp [h.size] at this; exact this
    have := h.adr (by omega)
    rw [he] at this
    injection this with this
    subst this
    rw [add_mk, h.cell j hj]
    rw [List.getElem?_map] at hu
    have hz : j < z.length := by rw [h.size]; exact hj
    rw [List.getElem?_eq_getElem hz] at hu
    rw [List.getD_eq_getElem?_getD, List.getElem?_eq_getElem hz]
    simpa using hu
  · apply Classical.byContradiction
    intro h0
    have := h.adr (by omega)
    rw [he] at this
    cases this
  · obtain ⟨x, _, rfl⟩ := List.mem_map.1 hu; rfl

theorem Src.of_edges {w : World} {ao : Option Addr} {m cap b off : Nat} {l : List Ed} (h : ERow w ao m b off l) (hn : ao = none → cap = 0) : Src w ao m cap 3 (edCells l) := by
  refine ⟨by rw [edCells_len, h.size], fun ad he j u hu => ?_, fun he => ⟨?_, hn he⟩, edCells_one l⟩
  · have hj : j < m * 3 := by have := (List.getElem?_eq_some_iff.1 hu).1; rw [edCells_len, h.size] at this; exact this
    have := h.adr (by omega)
    rw [he] at this
    injection this with this
    subst this
    have e : j = j / 3 * 3 + j % 3 := by omega
    have hq : j / 3 < m := by omega
    have hl := edCells_at l (j / 3) (j % 3) (by rw [h.size]; exact hq) (by omega)
    rw [← e, hu] at hl
    obtain ⟨c0, c1, c2⟩ := h.cell (j / 3) hq
    rw [add_mk]
    have h3 : j % 3 = 0 ∨ j % 3 = 1 ∨ j % 3 = 2 := by omega
    rcases h3 with h3 | h3 | h3
    · rw [h3] at hl
      rw [show off + j = off + j / 3 * 3 by omega, c0]
      exact hl.symm
    · rw [h3] at hl
      rw [show off + j = off + j / 3 * 3 + 1 by omega, c1]
      exact hl.symm
    · rw [h3] at hl
      rw [show off + j = off + j / 3 * 3 + 2 by omega, c2]
      exact hl.symm
  · apply Classical.byContradiction
    intro h0
    have := h.adr (by omega)
    rw [he] at this
    cases this

theorem owns_empty2 (w : World) (T : TypeId) (size : Nat) : (w.alloc (.cells #[] T)).ownsRow 0 T size (.slice (some ⟨w.heap.size, 0, none⟩) 0 0) 0 [] :=
  ⟨by simp, .inr ⟨w.heap.size, 0, #[], rfl, Nat.zero_le _, heap_alloc_new w _, Nat.le_refl _, by unfold maxLen; omega, by simp, by simp⟩⟩

theorem Src.below {w w' : World} {ao : Option Addr} {m cap size : Nat} {cs : List Value} (h : Src w ao m cap size cs) (hb : Below w.heap.size w w') : Src w' ao m cap size cs :=
  ⟨h.len, fun ad he j u hu => (hb.cell (World.block_lt_of_cell? w _ (h.cell ad he j u hu))).trans (h.cell ad he j u hu), h.nil, h.one⟩

theorem new_row {w w2 : World} {T : TypeId} {size m : Nat} {cs : List Value} {v2 : Value} (ho : w2.ownsRow 0 T size v2 (0 + m) ([] ++ cs)) (hg : (w.alloc (.cells #[] T)).grownBy w2 (Value.slice (some ⟨w.heap.size, 0, none⟩) 0 0).ownBlock)
    (hk : ∀ k, v2.ownBlock = some k → (Value.slice (some ⟨w.heap.size, 0, none⟩) 0 0).ownBlock = some k ∨ (w.alloc (.cells #[] T)).heap.size ≤ k) : NewRow w T size m cs v2 w2 := by
  have hb : Below w.heap.size w (w.alloc (.cells #[] T)) := (Below.refl _ _).alloc (Nat.le_refl _) _
  rw [Nat.zero_add, List.nil_append] at ho
  refine ⟨ho, hb.trans (((Mod.refl (fun k => some k = some w.heap.size) _).grown hg (fun k hk _ => hk.symm)).below hb.size (fun k hk => by injection hk with hk; omega)), fun k e => ?_⟩
  rcases hk k e with h1 | h1
  · cases h1; exact Nat.le_refl _
  · have := hb.size; omega

set_option maxHeartbeats 1000000 in
theorem cloneI_ok (w : World) (ao : Option Addr) (m cap : Nat) (cs : List Value) (h : Src w ao m cap 1 cs) (hm : m ≤ 100000) :
    Calls Try.prog 40 #[.slice ao m cap] w (RowPost w 3 1 m cs) := by
  have HS := Lib.hid h
  cases ao with
  | none =>
    obtain ⟨rfl, rfl⟩ := h.nil rfl
    have hc : cs = [] := List.eq_nil_of_length_eq_zero (by simpa using h.len)
    subst hc
    clear h
    have hq := Lib.run_eql_slice_nil (P := Try.prog) w 28 3 none 0 0 0 0 Try.underlying28
    go_enter Try.func40, Try.ntmps40
    go_wp2_with fail
    go_ret
    exact ⟨_, rfl, World.ownsRow_nil _ _ _ _, Below.refl _ _, by simp [Value.ownBlock]⟩
  | some ad =>
    clear h
    have HB := Lib.hid ((HS.out.below ((Below.refl w.heap.size w).alloc (Nat.le_refl _) (.cells #[] 3))))
    have HE := Lib.hid (owns_empty2 w 3 1)
    have hq := Lib.run_eql_slice_nil (P := Try.prog) w 28 3 (some ad) m cap 0 0 Try.underlying28
    go_enter Try.func40, Try.ntmps40
    go_wp2_with (at_builtin; apply keepIt)
    apply Lib.hid
    refine wpList_appendB 3 (.int .i64 0) 1 8 Try.underlying28 Try.infoInt rfl (by decide) _ 0 [] rfl HE.out ad m cap cs rfl HB.out.len (HB.out.cell ad rfl) HB.out.one (by unfold maxLen; omega) (by omega) ?_
    intro v2 w2 ho hg hk
    have FIN := Lib.hid (new_row ho hg hk)
    clear ho hg hk
    go_wp2_with fail
    go_ret
    exact ⟨_, rfl, FIN.out⟩

set_option maxHeartbeats 1000000 in
theorem cloneE_ok (w : World) (ao : Option Addr) (m cap : Nat) (cs : List Value) (h : Src w ao m cap 3 cs) (hm : m ≤ 100000) :
    Calls Try.prog 23 #[.slice ao m cap] w (RowPost w 27 3 m cs) := by
  have HS := Lib.hid h
  cases ao with
  | none =>
    obtain ⟨rfl, rfl⟩ := h.nil rfl
    have hc : cs = [] := List.eq_nil_of_length_eq_zero (by simpa using h.len)
    subst hc
    clear h
    have hq := Lib.run_eql_slice_nil (P := Try.prog) w 25 27 none 0 0 0 0 Try.underlying25
    go_enter Try.func23, Try.ntmps23
    go_wp2_with fail
    go_ret
    exact ⟨_, rfl, World.ownsRow_nil _ _ _ _, Below.refl _ _, by simp [Value.ownBlock]⟩
  | some ad =>
    clear h
    have HB := Lib.hid ((HS.out.below ((Below.refl w.heap.size w).alloc (Nat.le_refl _) (.cells #[] 27))))
    have HE := Lib.hid (owns_empty2 w 27 3)
    have hq := Lib.run_eql_slice_nil (P := Try.prog) w 25 27 (some ad) m cap 0 0 Try.underlying25
    go_enter Try.func23, Try.ntmps23
    go_wp2_with (at_builtin; apply keepIt)
    apply Lib.hid
    refine wpList_appendB 27 (.agg #[.int .i64 0, .int .i64 0, .int .i64 0]) 3 24 Try.underlying25 Try.infoEdge rfl (by decide) _ 0 [] rfl HE.out ad m cap cs rfl HB.out.len (HB.out.cell ad rfl) HB.out.one (by unfold maxLen; omega) (by omega) ?_
    intro v2 w2 ho hg hk
    have FIN := Lib.hid (new_row ho hg hk)
    clear ho hg hk
    go_wp2_with fail
    go_ret
    exact ⟨_, rfl, FIN.out⟩

end Go.Proofs.Ythacjealoomioaa
