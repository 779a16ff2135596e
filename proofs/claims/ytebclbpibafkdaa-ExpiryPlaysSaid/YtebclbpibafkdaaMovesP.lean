/- Plain facts: all times moved by the same number. -/
import Derived.Test.YtebclbpibafkdaaDueP
namespace Go.Proofs.Ytebclbpibafkdaa
set_option linter.unusedVariables false
set_option linter.unusedSimpArgs false

def shiftE (c : Int) (e : Ent) : Ent := (e.1, e.2 + c)

theorem elt_shift (c : Int) (a b : Ent) : elt (shiftE c a) (shiftE c b) ↔ elt a b := by unfold elt shiftE; simp only; omega

theorem ins_shift (c : Int) (x : Ent) (l : List Ent) : ins (shiftE c x) (l.map (shiftE c)) = (ins x l).map (shiftE c) := by
  induction l with
  | nil => rfl
  | cons a l ih =>
    rw [List.map_cons]
    unfold ins
    by_cases h : elt x a
    · rw [if_pos ((elt_shift c x a).2 h), if_pos h]; rfl
    · rw [if_neg (fun e => h ((elt_shift c x a).1 e)), if_neg h, ih]; rfl

theorem sortE_shift (c : Int) (l : List Ent) : sortE (l.map (shiftE c)) = (sortE l).map (shiftE c) := by
  induction l with
  | nil => rfl
  | cons a l ih => rw [List.map_cons]; show ins _ (sortE _) = List.map _ (ins a (sortE l)); rw [ih, ins_shift]

theorem pairs_shift (c : Int) (z : List Int) : pairs (z.map (· + c)) = (pairs z).map (shiftE c) := by
  apply List.ext_getElem?
  intro i
  unfold pairs
  simp only [List.getElem?_map, List.getElem?_mapIdx]
  cases z[i]? <;> rfl

theorem dueN_shift (c : Int) (S : List Ent) (now : Int) : dueN (S.map (shiftE c)) (now + c) = dueN S now := by
  unfold dueN
  rw [List.takeWhile_map, List.length_map]
  congr 2
  funext e
  simp [shiftE]

theorem fst_shift (c : Int) (S : List Ent) (n : Nat) : ((S.map (shiftE c)).take n).map (·.1) = (S.take n).map (·.1) := by
  rw [← List.map_take, List.map_map]
  rfl

theorem moves_due (z : List Int) (c now : Int) :
    ((sortE (pairs (z.map (· + c)))).take (dueN (sortE (pairs (z.map (· + c)))) (now + c))).map (·.1) = ((sortE (pairs z)).take (dueN (sortE (pairs z)) now)).map (·.1) := by
  rw [pairs_shift, sortE_shift, dueN_shift, fst_shift]

theorem take_succ_getD (z : List Int) (k : Nat) (h : k < z.length) : z.take (k + 1) = z.take k ++ [z.getD k 0] := by
  rw [List.take_succ_eq_append_getElem h, List.getD_eq_getElem?_getD, List.getElem?_eq_getElem h]; rfl

end Go.Proofs.Ytebclbpibafkdaa
