/- slices.Clone of entries. -/
import Derived.Test.YtebclbpibafkdaaRefE
import Derived.Test.YtebclbpibafkdaaApp
namespace Go.Proofs.Ytebclbpibafkdaa
set_option linter.unusedVariables false
set_option linter.unusedSimpArgs false
open Go.RowKit

theorem owns_empty2 (w : World) (T : TypeId) (size : Nat) : (w.alloc (.cells #[] T)).ownsRow 0 T size (.slice (some ⟨w.heap.size, 0, none⟩) 0 0) 0 [] :=
  ⟨by simp, .inr ⟨w.heap.size, 0, #[], rfl, Nat.zero_le _, heap_alloc_new w _, Nat.le_refl _, by unfold maxLen; omega, by simp, by simp⟩⟩

theorem keepIt2 {p : Prop} (h : Hid p) : p := h.out

theorem ents_one (L : List Ent) : ∀ u ∈ ents L, u.oneCell' = true := by
  intro u hu
  unfold ents at hu
  rw [List.mem_flatMap] at hu
  obtain ⟨e, _, hu⟩ := hu
  simp only [List.mem_cons, List.not_mem_nil, or_false] at hu
  rcases hu with rfl | rfl <;> rfl

set_option maxHeartbeats 1000000 in
set_option maxRecDepth 100000 in
theorem clone_ok (w : World) (v : Value) (L : List Ent) (h : w.ownsRow 0 28 2 v L.length (ents L)) (hl : L.length ≤ 65536) :
    Calls Try.prog 74 #[v] w (RRow w L) := by
  have HH := Lib.hid h
  obtain ⟨ao, cap, rfl⟩ := owns_slice h
  have hown := h.alloc (.cells #[] 28)
  have HO := Lib.hid hown
  have HE := Lib.hid (owns_empty2 w 28 2)
  have hb : Below w.heap.size w (w.alloc (.cells #[] 28)) := (Below.refl _ _).alloc (Nat.le_refl _) _
  have HB := Lib.hid hb
  clear h hown hb
  cases ao with
  | none =>
    have h0 : L.length = 0 := by
      rcases HH.out.2 with ⟨_, h⟩ | ⟨g, cap', cur, h, _⟩
      · exact h
      · simp at h
    have hL : L = [] := List.eq_nil_of_length_eq_zero h0
    have hc : cap = 0 := by
      rcases HH.out.2 with ⟨h, _⟩ | ⟨g, cap', cur, h, _⟩
      · injection h
      · simp at h
    subst hL
    subst hc
    clear HH
    clear h0 HO HE HB
    have hq := Lib.run_eql_slice_nil (P := Try.prog) w 68 28 none 0 0 0 0 Try.underlying68
    go_enter Try.func74, Try.ntmps74
    go_wp2_with fail
    go_ret
    exact ⟨_, rfl, World.ownsRow_nil _ _ _ _, Below.refl _ _, by simp [Value.ownBlock]⟩
  | some ad =>
    have hq := Lib.run_eql_slice_nil (P := Try.prog) w 68 28 (some ad) L.length cap 0 0 Try.underlying68
    go_enter Try.func74, Try.ntmps74
    go_wp2_with (at_builtin; apply keepIt2)
    apply Lib.hid
    refine wpList_appendR rfl 28 (.agg #[.int .i64 0, .int .i64 0]) 2 16 Try.underlying68 Try.infoEntry rfl (by decide) _ 0 [] rfl HE.out _ L.length _ rfl HO.out (ents_one L) (by unfold maxLen; omega) (by omega) ?_
    intro v2 w2 ho hg hk
    rw [Nat.zero_add, List.nil_append] at ho
    have FIN : Hid (ENewRow w L v2 w2) := by
      have hsz := HB.out.size
      refine ⟨ho, HB.out.trans (((Mod.refl (fun k => some k = some w.heap.size) _).grown hg (fun k hk _ => hk.symm)).below HB.out.size (fun k hk => by injection hk with hk; omega)), fun k e => ?_⟩
      rcases hk k e with h1 | h1
      · cases h1; exact Nat.le_refl _
      · omega
    clear ho hg hk
    go_wp2_with fail
    go_ret
    exact ⟨_, rfl, FIN.out⟩

end Go.Proofs.Ytebclbpibafkdaa
