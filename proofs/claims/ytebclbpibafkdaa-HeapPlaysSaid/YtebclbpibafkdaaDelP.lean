/- Plain facts: an index out of a list, and into it. -/
import Derived.Test.YtebclbpibafkdaaHeapJ
namespace Go.Proofs.Ytebclbpibafkdaa
set_option linter.unusedVariables false
set_option linter.unusedSimpArgs false

theorem del_ins {i k : Int} {L : List Ent} : del i (ins (i, k) L) = del i L := by
  induction L with
  | nil => simp [ins, del]
  | cons a L ih =>
    unfold ins
    split
    · unfold del; simp
    · unfold del at *; rw [List.filter_cons, List.filter_cons, ih]

theorem del_del {i : Int} {L : List Ent} : del i (del i L) = del i L := by
  unfold del; rw [List.filter_filter]; simp

theorem not_mem_del {i : Int} {L : List Ent} : ∀ e ∈ del i L, e.1 ≠ i := by
  intro e he
  unfold del at he
  rw [List.mem_filter] at he
  simpa using he.2

theorem mem_ins {x : Ent} {L : List Ent} {e : Ent} : e ∈ ins x L ↔ e = x ∨ e ∈ L := by
  rw [(ins_perm x L).mem_iff, List.mem_cons]

end Go.Proofs.Ytebclbpibafkdaa
