/- Plain facts for ExpirySets; rows that were made from a block on. -/
import Derived.Test.YtebclbpibafkdaaThree
import Derived.Test.YtebclbpibafkdaaAgree
import Derived.Test.YtebclbpibafkdaaMovesW
namespace Go.Proofs.Ytebclbpibafkdaa
set_option linter.unusedVariables false
set_option linter.unusedSimpArgs false
open Go.RowKit

theorem del_ins {i k : Int} {L : List Ent} : del i (ins (i, k) L) = del i L := by
  induction L with
  | nil => simp [ins, del]
  | cons a L ih =>
    unfold ins
    split
    · unfold del; simp
    · unfold del at *; rw [List.filter_cons, List.filter_cons, ih]

theorem del_del {i : Int} {L : List Ent} : del i (del i L) = del i L := by
  unfold del; rw [List.filter_filter]; simp

theorem not_mem_del {i : Int} {L : List Ent} : ∀ e ∈ del i L, e.1 ≠ i := by
  intro e he
  unfold del at he
  rw [List.mem_filter] at he
  simpa using he.2

theorem mem_ins {x : Ent} {L : List Ent} {e : Ent} : e ∈ ins x L ↔ e = x ∨ e ∈ L := by
  rw [(ins_perm x L).mem_iff, List.mem_cons]

theorem sets_three {i k at' : Int} {S : List Ent} : ins (i, at') (del i (ins (i, k) (del i (ins (i, at') (del i S))))) = ins (i, at') (del i S) := by
  rw [del_ins, del_del, del_ins, del_del]

theorem sets_two {i at' : Int} {S : List Ent} : ins (i, at') (del i (del i S)) = ins (i, at') (del i S) := by rw [del_del]

theorem dueN_all {S : List Ent} {now : Int} (h : ∀ e ∈ S, e.2 ≤ now) : dueN S now = S.length := by
  exact (dueN_at (Nat.le_refl _) (fun i hi => h _ (ent_mem hi)) (fun h => absurd h (by omega))).symm

theorem fst_del (i : Int) (L : List Ent) : (del i L).map (·.1) = (L.map (·.1)).filter (fun x => x != i) := by
  unfold del; rw [List.filter_map]; rfl

/-- One of them goes. -/
theorem del_len {i k : Int} {L : List Ent} (hn : (L.map (·.1)).Nodup) (h : (i, k) ∈ L) : (del i L).length + 1 = L.length := by
  have hp : L.Perm ((i, k) :: L.erase (i, k)) := List.perm_cons_erase h
  have hd : del i L = L.erase (i, k) ∨ True := .inr trivial
  have h1 : (del i L).Perm (del i ((i, k) :: L.erase (i, k))) := hp.filter _
  have h2 : del i ((i, k) :: L.erase (i, k)) = del i (L.erase (i, k)) := by unfold del; simp
  have h3 : del i (L.erase (i, k)) = L.erase (i, k) := by
    refine del_self (fun e he hh => ?_)
    have h4 := (hp.map (·.1)).nodup_iff.1 hn
    rw [List.map_cons, List.nodup_cons] at h4
    exact h4.1 (List.mem_map.2 ⟨e, he, hh⟩)
  rw [h1.length_eq, h2, h3, hp.length_eq]; rfl

/-- A row of ints whose block is B or a later one. -/
structure RowN (B : Nat) (W : World) (v : Value) (z : List Int) : Prop where
  own : W.ownsRow 0 3 1 v z.length (z.map fun x => .int .i64 x)
  new : ∀ x, v.ownBlock = some x → B ≤ x

theorem RowN.mod {B : Nat} {W W' : World} {v : Value} {z : List Int} (h : RowN B W v z) {F : Nat → Prop} (hm : Mod F W W') (hF : ∀ k, F k → k < B) : RowN B W' v z :=
  ⟨owns_mod h.own hm (fun x hx e => by have := h.new x hx; have := hF x e; omega), h.new⟩

theorem RowN.below {B : Nat} {W W' : World} {v : Value} {z : List Int} (h : RowN B W v z) (k : Below W.heap.size W W') : RowN B W' v z :=
  ⟨owns_same h.own (fun x hx => k.block x (h.own.lt x hx).2), h.new⟩

theorem RowN.sl {B : Nat} {W : World} {v : Value} {z : List Int} (h : RowN B W v z) : IntSl W v z := IntSl.of_owns h.own

theorem RowN.due {W W' : World} {s : Nat} {S : List Ent} {g' : HG} {v : Value} {N : Nat} (hN : N ≤ S.length)
    (hrow : W'.ownsRow 0 3 1 v N ((S.take N).map fun e => .int .i64 e.1)) (hv : ∀ x, v.ownBlock = some x → ¬ g'.foot x ∧ x ≠ s ∧ W.heap.size ≤ x) : RowN W.heap.size W' v ((S.take N).map (·.1)) := by
  have hl : ((S.take N).map (·.1)).length = N := by simp; omega
  exact ⟨by rw [hl, List.map_map]; exact hrow, fun x hx => (hv x hx).2.2⟩

/-- A row of ints that was made since w. -/
structure INewRow (w : World) (z : List Int) (v : Value) (wr : World) : Prop where
  row : RowN w.heap.size wr v z
  bel : Below w.heap.size w wr

theorem INewRow.more {w wr w1 w2 : World} {z : List Int} {v v' : Value} (h : INewRow w z v wr) (hb : Below wr.heap.size wr w1) {x : Int}
    (ho : w2.ownsRow 0 3 1 v' (z.length + 1) (z.map (fun x => .int .i64 x) ++ [.int .i64 x])) (hg : w1.grownBy w2 v.ownBlock) (hk : ∀ k, v'.ownBlock = some k → v.ownBlock = some k ∨ w1.heap.size ≤ k) :
    INewRow w (z ++ [x]) v' w2 := by
  have hsz := h.bel.size
  have hsz1 := hb.size
  refine ⟨⟨?_, fun k e => ?_⟩, ?_⟩
  · rw [List.length_append, List.map_append]; exact ho
  · rcases hk k e with h1 | h1
    · exact h.row.new k h1
    · omega
  · exact (h.bel.trans (hb.mono hsz)).trans (grown_below hg h.row.new (by omega))

end Go.Proofs.Ytebclbpibafkdaa
