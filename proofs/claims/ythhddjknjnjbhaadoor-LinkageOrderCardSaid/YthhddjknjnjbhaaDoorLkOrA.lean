/- LinkageOrder's closure: how many different distances are smaller; the map of the ranks. -/
import Derived.Test.YthhddjknjnjbhaaDoorLkOr
import Derived.Test.YthhddjknjnjbhaaDoorLkCm
import Derived.Maps.OwnSet
import Derived.Maps.OwnOps
namespace Go.Proofs.YthhddjknjnjbhaaDoor
set_option linter.unusedVariables false
set_option linter.unusedSimpArgs false
open Go.RowKit Go.Maps Go.WideMaps

def litI (x : Int) : Lit := .int .i64 x

theorem any_litI (x : Int) : ∀ l : List Int, (l.map litI).any (fun y => y.sameKey (litI x)) = l.contains x
  | [] => rfl
  | a :: r => by
    rw [List.map_cons, List.any_cons, List.contains_cons, any_litI x r]
    congr 1
    show decide (IntKind.i64 = IntKind.i64 ∧ a = x) = (x == a)
    by_cases e : a = x
    · subst e
      simp
    · have e' : ¬ x = a := fun h => e h.symm
      simp [e, e']

theorem fold_litI : ∀ (l acc : List Int), (l.map litI).foldl addKey (acc.map litI) = (l.foldl addN acc).map litI
  | [], acc => rfl
  | y :: l, acc => by
    rw [List.map_cons, List.foldl_cons, List.foldl_cons, ← fold_litI l (addN acc y)]
    congr 1
    unfold addKey addN
    rw [any_litI]
    by_cases h : acc.contains y = true
    · rw [if_pos h, if_pos h]
    · rw [if_neg h, if_neg h, List.map_append]; rfl

/-- The set of the numbers of the first k that are smaller than x. -/
def seenD {H : Type} (d : List Int) (x : Int) (k : Nat) : DataW H := setOf (.lit (.bool true)) (((d.take k).filter fun y => decide (y < x)).map litI)

theorem seen_zero {H : Type} (d : List Int) (x : Int) : seenD (H := H) d x 0 = .map [] := by simp [seenD, setOf]

theorem seen_yes {H : Type} {d : List Int} {x : Int} {k : Nat} (hk : k < d.length) (h : d.getD k 0 < x) : seenD (H := H) d x (k + 1) = (seenD d x k).put (litI (d.getD k 0)) (.lit (.bool true)) := by
  unfold seenD
  have e : d.take (k + 1) = d.take k ++ [d.getD k 0] := by
    rw [List.take_succ_eq_append_getElem hk, List.getD_eq_getElem?_getD, List.getElem?_eq_getElem hk]; rfl
  rw [e, List.filter_append, List.filter_cons, if_pos (by rw [decide_eq_true_eq]; exact h), List.filter_nil, List.map_append, List.map_singleton, setOf_snoc]

theorem seen_no {H : Type} {d : List Int} {x : Int} {k : Nat} (hk : k < d.length) (h : ¬ d.getD k 0 < x) : seenD (H := H) d x (k + 1) = seenD d x k := by
  unfold seenD
  have e : d.take (k + 1) = d.take k ++ [d.getD k 0] := by
    rw [List.take_succ_eq_append_getElem hk, List.getD_eq_getElem?_getD, List.getElem?_eq_getElem hk]; rfl
  rw [e, List.filter_append, List.filter_cons, if_neg (by rw [decide_eq_true_eq]; exact h), List.filter_nil, List.append_nil]

theorem seen_size {H : Type} {d : List Int} {x : Int} {k : Nat} (hk : d.length = k) : (Maps.size (seenD (H := H) d x k) : Int) = rankI d x := by
  unfold seenD rankI rankN
  rw [size_setOf _ _ (fun y hy => by obtain ⟨_, _, rfl⟩ := List.mem_map.1 hy; trivial), List.take_of_length_le (by omega)]
  have := fold_litI (d.filter fun y => decide (y < x)) []
  rw [List.map_nil] at this
  rw [this, List.length_map]
  rfl

theorem keyed64 : Keyed Tryd.prog 2 := int_keyed Tryd.underlying2

set_option maxHeartbeats 1000000 in
set_option maxRecDepth 100000 in
theorem rank_ok (w : World) (pd db nn : Nat) (d : List Int) (x : Int) (hp : w.cell? ⟨pd, 0, none⟩ = some (.slice (some ⟨db, 0, none⟩) nn nn)) (hd : InRow .i64 w (some ⟨db, 0, none⟩) nn db 0 d) (hn : nn ≤ 1000000)
    (hb : ∀ y ∈ d, 0 ≤ y ∧ y ≤ 1099511627776) :
    Calls Tryd.prog 16 #[.int .i64 x, .pointer (some ⟨pd, 0, none⟩)] w (RetB (.int .i64 (rankI d x)) w) := by
  have hmm := @run_makeMap Tryd.prog
  have HP := Lib.hid hp
  have HD := Lib.hid hd
  have HBD := Lib.hid hb
  have hpl := World.block_lt_of_cell? w _ hp
  have p0 : (w.alloc (.map #[] 0)).cell? ⟨pd, 0, none⟩ = some (.slice (some ⟨db, 0, none⟩) nn nn) := (((Below.refl w.heap.size w).alloc (Nat.le_refl _) _).cell (p := ⟨pd, 0, none⟩) hpl).trans hp
  clear hp hd hb
  go_enter Tryd.func16, Tryd.ntmps16
  go_wp2_with fail
  go_loopw [9] (fun i wr => ∃ k : Nat, k ≤ nn ∧ i = .int .i64 k ∧ wr.ownsMap Tryd.prog 2 (plainElem Tryd.prog 4) w.heap.size k (seenD (H := Unit) d x k) ∧ Below w.heap.size w wr)
    (fun i _ => nn - (intOf i).toNat)
  case atStart => exact ⟨0, Nat.zero_le _, rfl, by rw [seen_zero]; exact World.ownsMap_made _ _ _ _, (Below.refl _ _).alloc (Nat.le_refl _) _⟩
  case round =>
    obtain ⟨k, hk, rfl, hown, hnx⟩ := hrel
    clear p0
    have p1 := (hnx.cell (p := ⟨pd, 0, none⟩) hpl).trans HP.out
    have HOWN := Lib.hid hown
    have HNX := Lib.hid hnx
    by_cases hkn : k < nn
    · have c1 := (HD.out.below hnx).cell k hkn
      rw [Nat.zero_add] at c1
      have hlen : k < d.length := by rw [HD.out.size]; exact hkn
      have hmem : d.getD k 0 ∈ d := by rw [List.getD_eq_getElem?_getD, List.getElem?_eq_getElem hlen]; exact List.getElem_mem hlen
      obtain ⟨hb0, hb1⟩ := HBD.out _ hmem
      by_cases hlt : d.getD k 0 < x
      · have HY := Lib.hid (seen_yes (H := Unit) (x := x) hlen hlt)
        have hwf : (Lit.int .i64 (d.getD k 0)).wf = true := WalkArith.wf_i64 (by omega)
        generalize d.getD k 0 = y at *
        have hkey : keyOf Tryd.prog 2 (.int .i64 y) = some (litI y) := keyOf_int_mk Tryd.underlying2 hwf
        have hlt' : decide (y < x) = true := by simp [hlt]
        clear hown hnx hmem hlen
        go_wp2_with (at_mapUpdate; refine wpList_mapUpdate_own _ rfl _ _ _ 48 rfl 2 4 keyed64 Tryd.underlying48 (plainElem (H := Unit) Tryd.prog 4) w.heap.size k _ rfl HOWN.out (by unfold maxLen; omega) _ _ _ rfl rfl hkey _ [] (plainElem_bool Tryd.underlying4 true) ?_; intro w1 hown1 hgrow1)
        go_roundw
        case rel => exact ⟨k + 1, by omega, by go_num, by rw [HY.out]; exact hown1, HNX.out.grown hgrow1 HNX.out.size (fun j hj => by cases hj; exact Nat.le_refl _)⟩
        case measure => simp [intOf]; omega
      · have HY := Lib.hid (seen_no (H := Unit) (x := x) hlen hlt)
        generalize d.getD k 0 = y at *
        have hlt' : decide (y < x) = false := by simp [hlt]
        clear hown hnx hmem hlen
        go_wp2_with fail
        go_roundw
        case rel => exact ⟨k + 1, by omega, by go_num, by rw [HY.out]; exact HOWN.out.mono (by omega), HNX.out⟩
        case measure => simp [intOf]; omega
    · have hk2 : k = nn := by omega
      have hk3 : ¬ (k : Int) < (nn : Int) := by omega
      have HS := Lib.hid (seen_size (H := Unit) (d := d) (x := x) (k := k) (by rw [HD.out.size]; exact hk2.symm))
      clear hown hnx hk2
      go_wp2_with (at_len; refine wpList_len_own _ rfl _ 48 rfl 2 4 Tryd.underlying48 _ w.heap.size k _ rfl HOWN.out ?_)
      go_ret
      exact ⟨ret_int HS.out, HNX.out⟩

end Go.Proofs.YthhddjknjnjbhaaDoor
