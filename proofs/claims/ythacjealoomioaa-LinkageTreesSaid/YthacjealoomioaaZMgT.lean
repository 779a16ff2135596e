/- Several texts in one: LkS, LkT, LkW, LkU, LkV, LkX. -/
import Derived.Test.YthacjealoomioaaZMgS
import Derived.Test.YthacjealoomioaaZMgA
import Derived.Test.YthacjealoomioaaZLkG
import Derived.Test.YthacjealoomioaaZLkE
import Derived.Test.YthacjealoomioaaZLkF
import Derived.Test.YthacjealoomioaaZLkH
/- The statements' comparisons: equal lists. -/
namespace Go.Proofs.Ythacjealoomioaa.Lk
set_option linter.unusedVariables false
set_option linter.unusedSimpArgs false
open Go.RowKit

def mg0 : Mg := ⟨0, 0, 0, 0, 0⟩

/-- A slice of merges. -/
structure MRow (w : World) (ao : Option Addr) (len b off : Nat) (ms : List Mg) : Prop where
  size : ms.length = len
  adr : 0 < len → ao = some ⟨b, off, none⟩
  cell : ∀ i, i < len → w.cell? ⟨b, off + i * 5, none⟩ = some (.int .i64 (ms.getD i mg0).A) ∧ w.cell? ⟨b, off + i * 5 + 1, none⟩ = some (.int .i64 (ms.getD i mg0).B) ∧ w.cell? ⟨b, off + i * 5 + 2, none⟩ = some (.int .i64 (ms.getD i mg0).N) ∧
    w.cell? ⟨b, off + i * 5 + 3, none⟩ = some (.int .i64 (ms.getD i mg0).D) ∧ w.cell? ⟨b, off + i * 5 + 4, none⟩ = some (.int .i64 (ms.getD i mg0).S)

theorem MRow.lt {w : World} {ao : Option Addr} {len b off : Nat} {ms : List Mg} (h : MRow w ao len b off ms) (hl : 0 < len) : b < w.heap.size :=
  World.block_lt_of_cell? w _ (h.cell 0 hl).1

theorem MRow.mod {w w' : World} {ao : Option Addr} {len b off : Nat} {ms : List Mg} {F : Nat → Prop} (h : MRow w ao len b off ms) (hm : Mod F w w') (hn : 0 < len → ¬ F b) : MRow w' ao len b off ms :=
  ⟨h.size, h.adr, fun i hi => by
    have hb := h.lt (by omega)
    have hF := hn (by omega)
    have := h.cell i hi
    exact ⟨(hm.cell hb hF).trans this.1, (hm.cell hb hF).trans this.2.1, (hm.cell hb hF).trans this.2.2.1, (hm.cell hb hF).trans this.2.2.2.1, (hm.cell hb hF).trans this.2.2.2.2⟩⟩

theorem MRow.below {w w' : World} {ao : Option Addr} {len b off : Nat} {ms : List Mg} (h : MRow w ao len b off ms) (hb : Below w.heap.size w w') : MRow w' ao len b off ms :=
  h.mod (Mod.of_below (F := fun _ => False) hb) (fun _ h => h)

theorem cells_at : ∀ (ms : List Mg) (i j : Nat), i < ms.length → j < 5 → (ms.flatMap Mg.cells)[i * 5 + j]? = (ms.getD i mg0).cells[j]?
  | [], i, j, h, _ => by simp at h
  | x :: l, 0, j, _, hj => by
    rw [List.flatMap_cons, Nat.zero_mul, Nat.zero_add, List.getElem?_append_left (by simp [Mg.cells]; omega)]; rfl
  | x :: l, i + 1, j, h, hj => by
    rw [List.flatMap_cons, List.getElem?_append_right (by simp [Mg.cells]; omega), show (i + 1) * 5 + j - x.cells.length = i * 5 + j by simp [Mg.cells]; omega, cells_at l i j (by simpa using h) hj]
    rfl

theorem MRow.of_owns {w : World} {v : Value} {ms : List Mg} {T : TypeId} (h : w.ownsRow 0 T 5 v ms.length (ms.flatMap Mg.cells)) : ∃ ao cap b, v = .slice ao ms.length cap ∧ MRow w ao ms.length b 0 ms ∧ ms.length ≤ cap ∧ ∀ k, v.ownBlock = some k → k = b := by
  by_cases hz : 0 < ms.length
  · obtain ⟨g, cap, rfl, hcap, _, _, hc, _⟩ := owns_form h hz
    refine ⟨_, _, g, rfl, ⟨rfl, fun _ => rfl, fun i hi => ?_⟩, hcap, fun k hk => by simpa [Value.ownBlock] using hk.symm⟩
    have key : ∀ j u, j < 5 → (ms.getD i mg0).cells[j]? = some u → w.cell? ⟨g, i * 5 + j, none⟩ = some u := fun j u hj hu => by
      rw [hc (i * 5 + j) (by omega), cells_at ms i j hi hj]; exact hu
    rw [Nat.zero_add]
    exact ⟨key 0 _ (by omega) rfl, key 1 _ (by omega) rfl, key 2 _ (by omega) rfl, key 3 _ (by omega) rfl, key 4 _ (by omega) rfl⟩
  · obtain ⟨ao, cap, rfl⟩ := owns_slice h
    refine ⟨ao, cap, (ao.map (·.block)).getD 0, rfl, ⟨rfl, fun h => by omega, fun i hi => by omega⟩, by omega, fun k hk => ?_⟩
    cases ao with
    | none => cases hk
    | some a => simpa [Value.ownBlock] using hk.symm

set_option maxHeartbeats 2000000 in
theorem alike_ok (w : World) (ao ao' : Option Addr) (len cap cap' b b' off off' : Nat) (z : List Int) (hu : InRow .i64 w ao len b off z) (hv : InRow .i64 w ao' len b' off' z) (hl : len ≤ 1000000000) :
    Calls Try.prog 21 #[.slice ao len cap, .slice ao' len cap'] w (RetB (.bool true) w) := by
  have HC := Lib.hid hu
  have HD := Lib.hid hv
  clear hu hv
  have t0 : ((len : Int) != (len : Int)) = false := by simp
  go_enter Try.func21, Try.ntmps21
  go_wp2_with fail
  go_loopw [5] (fun s wr => ∃ k : Nat, k ≤ len ∧ s = .int .i64 k ∧ Mod (fun _ => False) w wr) (fun s _ => len - (intOf s).toNat)
  case atStart => exact ⟨0, Nat.zero_le _, rfl, Mod.refl _ _⟩
  case round =>
    obtain ⟨k, hk, rfl, hm⟩ := hrel
    have HM := Lib.hid hm
    by_cases hkn : k < len
    · obtain rfl := HC.out.adr (by omega)
      obtain rfl := HD.out.adr (by omega)
      have c0 := (HC.out.mod hm (fun _ h => h)).cell k hkn
      have d0 := (HD.out.mod hm (fun _ h => h)).cell k hkn
      generalize z.getD k 0 = x at c0 d0
      clear hm
      have t1 : (k : Int) < (len : Int) := by omega
      have t2 : (x != x) = false := by simp
      go_wp2_with fail
      go_quiet (fail)
      go_wp2_with fail
      go_roundw
      case rel => exact ⟨k + 1, by omega, by go_num, HM.out.drewN _⟩
      case measure => simp [intOf]; omega
    · obtain rfl : k = len := by omega
      clear hm
      go_wp2_with fail
      go_ret
      exact ⟨rfl, HM.out.below (Nat.le_refl _) (fun _ h => h.elim)⟩

set_option maxHeartbeats 4000000 in
theorem same_ok (w : World) (ao ao' : Option Addr) (len cap cap' b b' off off' : Nat) (ms : List Mg) (hu : MRow w ao len b off ms) (hv : MRow w ao' len b' off' ms) (hl : len ≤ 1000000000) :
    Calls Try.prog 20 #[.slice ao len cap, .slice ao' len cap'] w (RetB (.bool true) w) := by
  have HC := Lib.hid hu
  have HD := Lib.hid hv
  clear hu hv
  have t0 : ((len : Int) != (len : Int)) = false := by simp
  go_enter Try.func20, Try.ntmps20
  go_wp2_with fail
  go_loopw [5] (fun s wr => ∃ k : Nat, k ≤ len ∧ s = .int .i64 k ∧ Mod (fun _ => False) w wr) (fun s _ => len - (intOf s).toNat)
  case atStart => exact ⟨0, Nat.zero_le _, rfl, Mod.refl _ _⟩
  case round =>
    obtain ⟨k, hk, rfl, hm⟩ := hrel
    have HM := Lib.hid hm
    by_cases hkn : k < len
    · obtain rfl := HC.out.adr (by omega)
      obtain rfl := HD.out.adr (by omega)
      obtain ⟨c0, c1, c2, c3, c4⟩ := (HC.out.mod hm (fun _ h => h)).cell k hkn
      obtain ⟨d0, d1, d2, d3, d4⟩ := (HD.out.mod hm (fun _ h => h)).cell k hkn
      generalize ms.getD k mg0 = x at c0 c1 c2 c3 c4 d0 d1 d2 d3 d4
      clear hm
      have t1 : (k : Int) < (len : Int) := by omega
      go_wp2_with fail
      go_quiet (fail)
      go_wp2_with fail
      go_roundw
      case rel => exact ⟨k + 1, by omega, by go_num, HM.out.drewN _⟩
      case measure => simp [intOf]; omega
    · obtain rfl : k = len := by omega
      clear hm
      go_wp2_with fail
      go_ret
      exact ⟨rfl, HM.out.below (Nat.le_refl _) (fun _ h => h.elim)⟩

end Go.Proofs.Ythacjealoomioaa.Lk

/- linkage: disjoint, Between. -/
namespace Go.Proofs.Ythacjealoomioaa.Lk
set_option linter.unusedVariables false
set_option linter.unusedSimpArgs false
open Go.RowKit

/-- What disjoint returns. -/
def disL (n : Nat) (a b : List Int) : Int :=
  if (a ++ b).all (fun x => decide (0 ≤ x ∧ x < (n : Int))) = false then 3 else if a.length = 0 ∨ b.length = 0 then 2 else if (a ++ b).Nodup then 0 else 2

theorem Try.zeroBool128 : (Try.prog.info? 102).bind (·.zero) = some (.agg (List.replicate 128 (.bool false)).toArray) := by kernel_rfl

def inB (n : Nat) (l : List Int) : Prop := ∀ x ∈ l, 0 ≤ x ∧ x < (n : Int)

theorem disL_rng {n : Nat} {a b : List Int} {x : Int} (hx : x ∈ a ++ b) (h : x < 0 ∨ (n : Int) ≤ x) : disL n a b = 3 := by
  unfold disL
  have : (a ++ b).all (fun x => decide (0 ≤ x ∧ x < (n : Int))) = false := by
    rw [Bool.eq_false_iff]
    intro hh
    have := List.all_eq_true.1 hh x hx
    simp at this
    omega
  rw [if_pos this]

theorem disL_all {n : Nat} {a b : List Int} (ha : inB n a) (hb : inB n b) : (a ++ b).all (fun x => decide (0 ≤ x ∧ x < (n : Int))) = true := by
  rw [List.all_eq_true]
  intro x hx
  rcases List.mem_append.1 hx with h | h
  · simpa using ha x h
  · simpa using hb x h

theorem disL_empty {n : Nat} {a b : List Int} (ha : inB n a) (hb : inB n b) (h : a.length = 0 ∨ b.length = 0) : disL n a b = 2 := by
  unfold disL; rw [disL_all ha hb, if_neg (by simp), if_pos h]

theorem disL_dup {n : Nat} {a b : List Int} (ha : inB n a) (hb : inB n b) (h : ¬ (a ++ b).Nodup) : disL n a b = 2 := by
  unfold disL; rw [disL_all ha hb, if_neg (by simp), if_neg h]; split <;> rfl

theorem disL_ok {n : Nat} {a b : List Int} (ha : inB n a) (hb : inB n b) (h0 : ¬ (a.length = 0 ∨ b.length = 0)) (h : (a ++ b).Nodup) : disL n a b = 0 := by
  unfold disL; rw [disL_all ha hb, if_neg (by simp), if_neg h0, if_pos h]

/-- The marks for the members of a list. -/
def seenL (l : List Int) : List Value := (List.range 128).map fun i : Nat => Value.bool (decide ((i : Int) ∈ l))

theorem seenL_nil : seenL [] = List.replicate 128 (.bool false) := by
  unfold seenL; simp [List.map_const']

theorem seenL_get {l : List Int} {i : Nat} (h : i < 128) : (seenL l)[i]? = some (.bool (decide ((i : Int) ∈ l))) := by
  simp [seenL, List.getElem?_range h]

theorem seenL_set {l : List Int} {i : Nat} (h : i < 128) : (seenL l).set i (.bool true) = seenL (l ++ [(i : Int)]) := by
  apply List.ext_getElem?
  intro j
  by_cases hj : j < 128
  · rw [seenL_get hj]
    by_cases e : j = i
    · subst e
      rw [List.getElem?_set_self (by simp [seenL]; omega)]; simp
    · rw [List.getElem?_set_ne (by omega), seenL_get hj]
      have : ¬ ((j : Int) = (i : Int)) := by omega
      simp [this]
  · rw [List.getElem?_eq_none (by simp [seenL]; omega), List.getElem?_eq_none (by simp [seenL]; omega)]

/-- One of two. -/
def pick2 (i : Nat) (a b : List Int) : List Int := if i = 0 then a else b

/-- What was gone through. -/
def preL (i : Nat) (a b : List Int) : List Int := match i with | 0 => [] | 1 => a | _ => a ++ b

theorem nodup_push {l : List Int} {x : Int} (h : l.Nodup) (hx : x ∉ l) : (l ++ [x]).Nodup := by
  rw [List.nodup_append]
  exact ⟨h, by simp, fun a ha b hb => by simp at hb; subst hb; exact fun e => hx (e ▸ ha)⟩

theorem not_nodup {l r : List Int} {x : Int} (hx : x ∈ l) : ¬ (l ++ x :: r).Nodup := fun h => by
  have := (List.nodup_append.1 h).2.2 x hx x (by simp)
  exact this rfl

theorem getD_split {l : List Int} {i : Nat} (h : i < l.length) : l = l.take i ++ l.getD i 0 :: l.drop (i + 1) := by
  have : l.getD i 0 = l[i] := by rw [List.getD_eq_getElem?_getD, List.getElem?_eq_getElem h]; rfl
  rw [this, ← List.drop_eq_getElem_cons h]; simp

theorem take_push {l : List Int} {i : Nat} (h : i < l.length) : l.take (i + 1) = l.take i ++ [l.getD i 0] := by
  rw [List.take_succ_eq_append_getElem h, List.getD_eq_getElem?_getD, List.getElem?_eq_getElem h]; rfl

theorem getD_mem {l : List Int} {i : Nat} (h : i < l.length) : l.getD i 0 ∈ l := by
  rw [List.getD_eq_getElem?_getD, List.getElem?_eq_getElem h]; exact List.getElem_mem h

set_option maxHeartbeats 8000000 in
set_option maxRecDepth 100000 in
theorem disjoint_ok (w : World) (n : Nat) (hn : n ≤ 128) (ao bo : Option Addr) (la lb ca cb pa pb oa ob : Nat) (a b : List Int) (ha : InRow .i64 w ao la pa oa a) (hb : InRow .i64 w bo lb pb ob b) (hla : la ≤ 1000000000) (hlb : lb ≤ 1000000000) :
    Calls Try.prog 38 #[.int .i64 n, .slice ao la ca, .slice bo lb cb] w (RetB (.int .i64 (disL n a b)) w) := by
  have HA := Lib.hid ha
  have HB := Lib.hid hb
  clear ha hb
  go_enter Try.func38, Try.ntmps38
  go_wp2_with fail
  generalize hW0 : World.alloc w _ = W0
  have HBW : Hid (Blk W0 w.heap.size 28 [.slice ao la ca, .slice bo lb cb]) := by show Blk _ _ _ _; rw [← hW0]; exact Blk.new w _ _
  have HBL : Hid (Below w.heap.size w W0) := by show Below _ _ _; rw [← hW0]; exact (Below.refl _ _).alloc (Nat.le_refl _) _
  have HSZ : Hid (w.heap.size < W0.heap.size) := HBW.out.lt
  clear hW0
  go_loopw [20] (fun s wr => ∃ i : Nat, i ≤ 2 ∧ s = .int .i64 i ∧ (0 < i → inB n a) ∧ (1 < i → inB n b) ∧ wr = W0) (fun s _ => 2 - (intOf s).toNat)
  case atStart => exact ⟨0, by omega, rfl, by omega, by omega, rfl⟩
  case round =>
    obtain ⟨i, hi, rfl, hia, hib, hwr⟩ := hrel
    have HIA := Lib.hid hia
    have HIB := Lib.hid hib
    clear hia hib
    subst hwr
    by_cases hi2 : i < 2
    · obtain ⟨xo, lx, cx, px, ox, xs, hc, hx, hlx, hxs⟩ : ∃ xo lx cx px ox xs, wr.cell? ⟨w.heap.size, i, none⟩ = some (.slice xo lx cx) ∧ InRow .i64 wr xo lx px ox xs ∧ lx ≤ 1000000000 ∧ xs = pick2 i a b := by
        rcases (show i = 0 ∨ i = 1 by omega) with rfl | rfl
        · exact ⟨ao, la, ca, pa, oa, a, HBW.out.cell (i := 0) rfl, HA.out.below HBL.out, hla, rfl⟩
        · exact ⟨bo, lb, cb, pb, ob, b, HBW.out.cell (i := 1) rfl, HB.out.below HBL.out, hlb, rfl⟩
      have HX := Lib.hid hx
      have HXS := Lib.hid hxs
      have t0 : (i : Int) < 2 := by omega
      clear hx hxs
      go_wp2_with fail
      clear hc
      obtain ⟨wq, hwq⟩ : ∃ wq : World, wq = wr := ⟨_, rfl⟩
      go_loopw [26] (fun s wr => ∃ j : Nat, j ≤ lx ∧ s = .int .i64 j ∧ inB n (xs.take j) ∧ wr = wq) (fun s _ => lx - (intOf s).toNat)
      case atStart => exact ⟨0, Nat.zero_le _, rfl, (fun x hx => by simp at hx), hwq.symm⟩
      case round =>
        rename_i wr0
        obtain ⟨j, hj, rfl, hall, hwr⟩ := hrel
        have HALL := Lib.hid hall
        subst hwr
        subst hwq
        clear hall
        by_cases hjl : j < lx
        · obtain rfl := HX.out.adr (by omega)
          have hjx : j < xs.length := by rw [HX.out.size]; exact hjl
          have c1 := HX.out.cell j hjl
          have HMEM : Hid (xs.getD j 0 ∈ a ++ b) := by
            show _ ∈ _
            have := getD_mem hjx
            rw [List.mem_append]
            rw [HXS.out] at this ⊢
            unfold pick2 at *
            split at this
            · rename_i h0; rw [if_pos h0]; exact .inl this
            · rename_i h0; rw [if_neg h0]; exact .inr this
          obtain ⟨x, HXE⟩ : ∃ x, Hid (xs.getD j 0 = x) := ⟨_, rfl⟩
          rw [HXE.out] at c1 HMEM
          have t1 : (j : Int) < (lx : Int) := by omega
          by_cases h1 : x < 0
          · have t2 : decide (x < 0) = true := by simp [h1]
            have H1 := Lib.hid h1
            clear h1
            go_wp2_with fail
            go_ret
            exact ⟨ret_int (disL_rng HMEM.out (.inl H1.out)).symm, HBL.out⟩
          · have t2 : decide (x < 0) = false := by simp; omega
            by_cases h2 : (n : Int) ≤ x
            · have t3 : decide ((n : Int) ≤ x) = true := by simp [h2]
              have H1 := Lib.hid h2
              clear h1 h2
              go_wp2_with fail
              go_ret
              exact ⟨ret_int (disL_rng HMEM.out (.inr H1.out)).symm, HBL.out⟩
            · have t3 : decide ((n : Int) ≤ x) = false := by simp; omega
              have H1 : Hid (0 ≤ x ∧ x < (n : Int)) := ⟨by omega, by omega⟩
              clear h1 h2
              go_wp2_with fail
              go_roundw
              case rel =>
                refine ⟨j + 1, by omega, by go_num, ?_, by first | rfl | trivial⟩
                rw [take_push hjx, HXE.out]
                intro y hy
                rcases List.mem_append.1 hy with hh | hh
                · exact HALL.out y hh
                · simp at hh; rw [hh]; exact H1.out
              case measure => simp [intOf]; omega
        · obtain rfl : lx = j := by omega
          have HDONE : Hid (inB n xs) := by
            show inB _ _
            have := HALL.out
            rwa [List.take_of_length_le (by rw [HX.out.size]; exact Nat.le_refl _)] at this
          go_wp2_with fail
          go_roundw
          case rel =>
            refine ⟨i + 1, by omega, by go_num, fun h0 => ?_, fun h1 => ?_, by first | rfl | trivial⟩
            · rcases (show i = 0 ∨ i = 1 by omega) with e | e
              · have h2 := HDONE.out; rw [HXS.out, e] at h2; exact h2
              · exact HIA.out (by omega)
            · have h2 := HDONE.out
              rw [HXS.out, show i = 1 by omega] at h2
              exact h2
          case measure => simp [intOf]; omega
    · obtain rfl : i = 2 := by omega
      have HNA : Hid (inB n a) := HIA.out (by omega)
      have HNB : Hid (inB n b) := HIB.out (by omega)
      have HAL := HA.out.size
      have HBLN := HB.out.size
      clear HIA HIB
      by_cases hae : la = 0
      · have t1 : ((la : Int) == 0) = true := by simp [hae]
        have HE : Hid (disL n a b = 2) := disL_empty HNA.out HNB.out (.inl (by omega))
        clear hae HAL HBLN
        go_wp2_with fail
        go_ret
        exact ⟨ret_int HE.out.symm, HBL.out⟩
      · have t1 : ((la : Int) == 0) = false := by simp; omega
        by_cases hbe : lb = 0
        · have t2 : ((lb : Int) == 0) = true := by simp [hbe]
          have HE : Hid (disL n a b = 2) := disL_empty HNA.out HNB.out (.inr (by omega))
          clear hae hbe HAL HBLN
          go_wp2_with fail
          go_ret
          exact ⟨ret_int HE.out.symm, HBL.out⟩
        · have t2 : ((lb : Int) == 0) = false := by simp; omega
          have HNE : Hid (¬ (a.length = 0 ∨ b.length = 0)) := by show ¬ _; omega
          clear hae hbe HAL HBLN
          go_wp2_with (with_reducible refine wpList_allocB _ Try.zeroBool128 ?_; intro w3 B3 hb3)
          generalize hW4 : World.alloc w3 _ = W4
          have HB4 : Hid (Blk W4 w3.heap.size 28 [.slice ao la ca, .slice bo lb cb]) := by show Blk _ _ _ _; rw [← hW4]; exact Blk.new w3 _ _
          have HS4 : Hid (Blk W4 wr.heap.size 102 (seenL [])) := by
            show Blk _ _ _ _
            rw [← hW4, seenL_nil]; exact B3.alloc _
          have HBL4 : Hid (Below w.heap.size w W4) := by
            show Below _ _ _
            rw [← hW4]
            have h1 := HBL.out.size
            have h2 := hb3.size
            exact (HBL.out.trans (hb3.mono h1)).alloc (by omega) _
          have hne : ¬ (w3.heap.size = wr.heap.size) := by have := B3.lt; omega
          have hne2 : w.heap.size < wr.heap.size := HSZ.out
          generalize w3.heap.size = L3 at *
          generalize wr.heap.size = sb at *
          clear hW4 B3 hb3 HBW HBL
          obtain ⟨wq, rfl⟩ : ∃ wq : World, wq = wr := ⟨_, rfl⟩
          go_loopw [51] (fun s wr => ∃ i : Nat, i ≤ 2 ∧ s = .int .i64 i ∧ (preL i a b).Nodup ∧ Blk wr sb 102 (seenL (preL i a b)) ∧ Mod (fun x => x = sb) W4 wr) (fun s _ => 2 - (intOf s).toNat)
          case atStart => exact ⟨0, by omega, rfl, List.nodup_nil, HS4.out, Mod.refl _ _⟩
          case round =>
            obtain ⟨i, hi, rfl, hnd, hsb, hm⟩ := hrel
            have HND := Lib.hid hnd
            have HSBK := Lib.hid hsb
            have HM := Lib.hid hm
            clear hnd hsb hm
            by_cases hi2 : i < 2
            · obtain ⟨xo, lx, cx, px, ox, xs, hc, hx, hlx, hxs, hbp⟩ : ∃ xo lx cx px ox xs, wr.cell? ⟨L3, i, none⟩ = some (.slice xo lx cx) ∧ InRow .i64 w xo lx px ox xs ∧ lx ≤ 1000000000 ∧ xs = pick2 i a b ∧ inB n xs := by
                have h4 := HB4.out.mod HM.out (by show ¬ (L3 = sb); exact hne)
                rcases (show i = 0 ∨ i = 1 by omega) with rfl | rfl
                · exact ⟨ao, la, ca, pa, oa, a, h4.cell (i := 0) rfl, HA.out, hla, rfl, HNA.out⟩
                · exact ⟨bo, lb, cb, pb, ob, b, h4.cell (i := 1) rfl, HB.out, hlb, rfl, HNB.out⟩
              have HX := Lib.hid hx
              have HXS := Lib.hid hxs
              have HBP := Lib.hid hbp
              have t0 : (i : Int) < 2 := by omega
              have HPRE : Hid (∃ suf, preL i a b ++ (xs ++ suf) = a ++ b) := by
                rcases (show i = 0 ∨ i = 1 by omega) with e | e
                · subst e; exact ⟨b, by rw [hxs]; rfl⟩
                · subst e; exact ⟨[], by rw [hxs]; simp [preL, pick2]⟩
              have HNXT : Hid (preL i a b ++ xs = preL (i + 1) a b) := by
                show _ = _
                rcases (show i = 0 ∨ i = 1 by omega) with e | e
                · subst e; rw [hxs]; rfl
                · subst e; rw [hxs]; rfl
              clear hx hxs hbp
              go_wp2_with fail
              clear hc
              generalize preL i a b = pre at HND HSBK HPRE HNXT
              obtain ⟨wq2, rfl⟩ : ∃ wq : World, wq = wr := ⟨_, rfl⟩
              go_loopw [57] (fun s wr => ∃ j : Nat, j ≤ lx ∧ s = .int .i64 j ∧ (pre ++ xs.take j).Nodup ∧ Blk wr sb 102 (seenL (pre ++ xs.take j)) ∧ Mod (fun x => x = sb) W4 wr) (fun s _ => lx - (intOf s).toNat)
              case atStart => exact ⟨0, Nat.zero_le _, rfl, by simpa using HND.out, by simpa using HSBK.out, HM.out⟩
              case round =>
                obtain ⟨j, hj, rfl, hnd, hsb, hm⟩ := hrel
                clear HND HSBK HM
                have HND := Lib.hid hnd
                have HSBK := Lib.hid hsb
                have HM := Lib.hid hm
                clear hnd hsb hm
                by_cases hjl : j < lx
                · obtain rfl := HX.out.adr (by omega)
                  have hjx : j < xs.length := by rw [HX.out.size]; exact hjl
                  have hpw := HX.out.lt (by omega)
                  have c1 := (((HX.out.below HBL4.out).mod HM.out (fun _ e => by have e' : px = sb := e; omega))).cell j hjl
                  have hx := HBP.out _ (getD_mem hjx)
                  obtain ⟨x, HXE⟩ : ∃ x, Hid (xs.getD j 0 = x) := ⟨_, rfl⟩
                  rw [HXE.out] at c1 hx
                  obtain ⟨y, rfl⟩ := Int.eq_ofNat_of_zero_le hx.1
                  have hy : y < 128 := by omega
                  have t1 : (j : Int) < (lx : Int) := by omega
                  have t2 : (y : Int) < 128 := by omega
                  have c2 := HSBK.out.cell (seenL_get hy)
                  have f2 := HSBK.out.free y
                  by_cases hin : (y : Int) ∈ pre ++ xs.take j
                  · rw [decide_eq_true hin] at c2
                    have HE : Hid (disL n a b = 2) := by
                      refine disL_dup HNA.out HNB.out ?_
                      obtain ⟨suf, hs⟩ := HPRE.out
                      rw [← hs, getD_split hjx, HXE.out]
                      have := not_nodup (r := xs.drop (j + 1) ++ suf) hin
                      simpa using this
                    clear hin
                    go_wp2_with fail
                    go_ret
                    exact ⟨ret_int HE.out.symm, HBL4.out.trans (HM.out.below HBL4.out.size (fun k hk => by have e : k = sb := hk; omega))⟩
                  · rw [decide_eq_false hin] at c2
                    have HIN := Lib.hid hin
                    clear hin
                    go_wp2_with fail
                    go_roundw
                    case rel =>
                      refine ⟨j + 1, by omega, by go_num, ?_, ?_, HM.out.setCell ⟨sb, y, none⟩ (fun _ => rfl) _⟩
                      · rw [take_push hjx, HXE.out, ← List.append_assoc]
                        exact nodup_push HND.out HIN.out
                      · rw [take_push hjx, HXE.out, ← List.append_assoc, ← seenL_set hy]
                        exact HSBK.out.set _ _
                    case measure => simp [intOf]; omega
                · obtain rfl : lx = j := by omega
                  have HT : Hid (xs.take lx = xs) := List.take_of_length_le (by rw [HX.out.size]; exact Nat.le_refl _)
                  go_wp2_with fail
                  go_roundw
                  case rel =>
                    refine ⟨i + 1, by omega, by go_num, ?_, ?_, HM.out⟩
                    · have := HND.out; rw [HT.out, HNXT.out] at this; exact this
                    · have := HSBK.out; rw [HT.out, HNXT.out] at this; exact this
                  case measure => simp [intOf]; omega
            · obtain rfl : i = 2 := by omega
              have HE : Hid (disL n a b = 0) := disL_ok HNA.out HNB.out HNE.out HND.out
              go_wp2_with fail
              go_ret
              exact ⟨ret_int HE.out.symm, HBL4.out.trans (HM.out.below HBL4.out.size (fun k hk => by have e : k = sb := hk; omega))⟩

end Go.Proofs.Ythacjealoomioaa.Lk

/- linkage: Between. -/
namespace Go.Proofs.Ythacjealoomioaa.Lk
set_option linter.unusedVariables false
set_option linter.unusedSimpArgs false
open Go.RowKit Go.Shelf

theorem check_any (w : World) (n : Int) (ao : Option Addr) (len cap b off : Nat) (d : List Int) (hz : InRow .i64 w ao len b off d) (hlen : len ≤ 9223372036854775807) :
    Calls Try.prog 13 #[.int .i64 n, .slice ao len cap] w (RetB (.int .i64 (checkL n d)) w) := by
  by_cases h : n < 0 ∨ 128 < n ∨ (len : Int) ≠ n * n
  · rw [checkL_arg (by rw [hz.size]; exact h)]
    exact check_bad n ao len cap hlen w h
  · obtain ⟨k, rfl⟩ := Int.eq_ofNat_of_zero_le (show 0 ≤ n by omega)
    have e : ((k * k : Nat) : Int) = (k : Int) * k := by simp
    exact check_good k (by omega) ao len cap b off d w hz (by omega)

theorem mixF_spec {m : Int} (hm : m = 1 ∨ m = 2 ∨ m = 3) : ∃ k, mixF m = .func (.func k) #[] #[] ∧ (∀ args w, (callFunc k args).run Try.prog w = .ok (.enter k args) w) ∧ ∀ x y w, Calls Try.prog k #[.int .i64 x, .int .i64 y] w (Ret (.int .i64 (mixV m x y)) w) := by
  rcases hm with rfl | rfl | rfl
  · exact ⟨32, rfl, enters_of Try.func32 (by kernel_rfl) rfl, mix1⟩
  · exact ⟨33, rfl, enters_of Try.func33 (by kernel_rfl) rfl, mix2⟩
  · exact ⟨34, rfl, enters_of Try.func34 (by kernel_rfl) rfl, mix3⟩

theorem mixF_nil {m : Int} (h : ¬ (m = 1 ∨ m = 2 ∨ m = 3)) : mixF m = .nilFunc := by
  unfold mixF; rw [if_neg (by omega), if_neg (by omega), if_neg (by omega)]

def toN (l : List Int) : List Nat := l.map Int.toNat

/-- What Between returns: numerator, denominator, error. -/
def betL (n : Int) (d : List Int) (m : Int) (a b : List Int) : Int × Int × Int :=
  if ¬ (m = 1 ∨ m = 2 ∨ m = 3) then (0, 0, 2) else if checkL n d ≠ 0 then (0, 0, checkL n d) else if disL n.toNat a b ≠ 0 then (0, 0, disL n.toNat a b) else
    if m = 3 then (lowN (gap m n.toNat d (toN a) (toN b)) ((a.length * b.length : Nat) : Int), lowD (gap m n.toNat d (toN a) (toN b)) ((a.length * b.length : Nat) : Int), 0) else (gap m n.toNat d (toN a) (toN b), 1, 0)

theorem disL_zero {n : Nat} {a b : List Int} (h : disL n a b = 0) : inB n a ∧ inB n b ∧ 0 < a.length ∧ 0 < b.length ∧ (a ++ b).Nodup := by
  unfold disL at h
  split at h
  · cases h
  rename_i h1
  split at h
  · cases h
  rename_i h2
  split at h
  · rename_i h3
    rw [Bool.not_eq_false, List.all_eq_true] at h1
    refine ⟨fun x hx => by simpa using h1 x (List.mem_append_left _ hx), fun x hx => by simpa using h1 x (List.mem_append_right _ hx), by omega, by omega, h3⟩
  · cases h

theorem filter_len (n : Int) : ∀ l : List Int, l.Nodup → l.length ≤ (l.filter fun x => decide (x ≠ n)).length + 1
  | [], _ => by simp
  | x :: l, h => by
    obtain ⟨h1, h2⟩ := List.nodup_cons.1 h
    by_cases e : x = n
    · have : l.filter (fun y => decide (y ≠ n)) = l := by
        apply List.filter_eq_self.2
        intro y hy
        have : y ≠ n := fun e2 => h1 (by rw [e, ← e2]; exact hy)
        simpa using this
      simp only [List.filter_cons]
      rw [if_neg (by simp [e]), this]; simp
    · have := filter_len n l h2
      simp only [List.filter_cons]
      rw [if_pos (by simpa using e)]
      simp only [List.length_cons]
      omega

theorem nodup_len : ∀ (n : Nat) (l : List Int), l.Nodup → inB n l → l.length ≤ n
  | 0, l, _, h => by
    cases l with
    | nil => simp
    | cons x l => have := h x (by simp); omega
  | n + 1, l, hn, h => by
    have h1 := filter_len (n : Int) l hn
    have h2 := nodup_len n (l.filter fun x => decide (x ≠ (n : Int))) (hn.filter _) (fun x hx => by
      obtain ⟨hx1, hx2⟩ := List.mem_filter.1 hx
      have := h x hx1
      have h3 : x ≠ (n : Int) := by simpa using hx2
      omega)
    omega

/-- What was gone through. -/
def vis (n : Nat) (d : List Int) (a b : List Nat) (i j : Nat) : List Int := cross n d (a.take i) b ++ (b.take j).map fun y => at2 n d (a.getD i 0) y

theorem vis_next {n : Nat} {d : List Int} {a b : List Nat} {i : Nat} (hi : i < a.length) : vis n d a b i b.length = vis n d a b (i + 1) 0 := by
  unfold vis
  rw [List.take_succ_eq_append_getElem hi, cross_append, List.take_length, List.take_zero, List.map_nil, List.append_nil]
  have : a.getD i 0 = a[i] := by rw [List.getD_eq_getElem?_getD, List.getElem?_eq_getElem hi]; rfl
  rw [this]
  simp [cross]

theorem vis_step {n : Nat} {d : List Int} {a b : List Nat} {i j : Nat} (hj : j < b.length) : vis n d a b i (j + 1) = vis n d a b i j ++ [at2 n d (a.getD i 0) (b.getD j 0)] := by
  unfold vis
  have : b.getD j 0 = b[j] := by rw [List.getD_eq_getElem?_getD, List.getElem?_eq_getElem hj]; rfl
  rw [List.take_succ_eq_append_getElem hj, List.map_append, this, List.append_assoc]; rfl

theorem vis_end {n : Nat} {d : List Int} {a b : List Nat} : vis n d a b a.length 0 = cross n d a b := by simp [vis]

theorem vis_len {n : Nat} {d : List Int} {a b : List Nat} {i j : Nat} (hi : i ≤ a.length) (hj : j ≤ b.length) : (vis n d a b i j).length = i * b.length + j := by
  unfold vis
  rw [List.length_append, cross_length]
  simp only [List.length_take, List.length_map, Nat.min_eq_left hi, Nat.min_eq_left hj]

theorem vis_mem {n : Nat} {d : List Int} {a b : List Nat} {i j : Nat} {x : Int} (h : x ∈ vis n d a b i j) : ∃ p q, x = at2 n d p q := by
  unfold vis at h
  rcases List.mem_append.1 h with hh | hh
  · unfold cross at hh
    obtain ⟨p, _, hx⟩ := List.mem_flatMap.1 hh
    obtain ⟨q, _, rfl⟩ := List.mem_map.1 hx
    exact ⟨p, q, rfl⟩
  · obtain ⟨q, _, rfl⟩ := List.mem_map.1 hh
    exact ⟨_, q, rfl⟩

/-- What is held on the way. -/
def visA (m : Int) (n : Nat) (d : List Int) (a b : List Nat) (i j : Nat) : Int := if i + j = 0 then at2 n d (a.getD 0 0) (b.getD 0 0) else agg m (vis n d a b i j)

theorem visA_step {m : Int} (hm : m = 1 ∨ m = 2 ∨ m = 3) {n : Nat} {d : List Int} (hd : DOk n d) {a b : List Nat} {i j : Nat} (hla : a.length ≤ 128) (hlb : b.length ≤ 128) (hi : i < a.length) (hj : j < b.length) (h : 0 < i + j) :
    visA m n d a b i (j + 1) = mixV m (visA m n d a b i j) (at2 n d (a.getD i 0) (b.getD j 0)) := by
  unfold visA
  rw [if_neg (by omega), if_neg (by omega), vis_step hj]
  have hlen := vis_len (n := n) (d := d) (a := a) (b := b) (i := i) (j := j) (by omega) (by omega)
  have hpos : 0 < i * b.length + j := by
    rcases Nat.eq_zero_or_pos i with e | e
    · omega
    · have := Nat.mul_pos e (show 0 < b.length by omega); omega
  have hne : vis n d a b i j ≠ [] := fun e => by rw [e] at hlen; simp at hlen; omega
  have hbd := agg_bounds (m := m) (M := 1099511627776) (by omega) (vis n d a b i j) (fun x hx => by obtain ⟨p, q, rfl⟩ := vis_mem hx; exact hd.lim p q)
  have hle : i * b.length + j ≤ 128 * 128 := by have h := Nat.mul_le_mul (show i + 1 ≤ 128 by omega) hlb; rw [Nat.succ_mul] at h; omega
  rw [hlen] at hbd
  rw [agg_append hne (by simp)]
  have e1 : agg m [at2 n d (a.getD i 0) (b.getD j 0)] = at2 n d (a.getD i 0) (b.getD j 0) := rfl
  rw [e1]
  generalize i * b.length + j = L at *
  have hl := hd.lim (a.getD i 0) (b.getD j 0)
  exact (mixV_E hm ⟨hbd.1, Int.le_trans hbd.2 (by omega)⟩ ⟨hl.1, by omega⟩).symm

theorem visA_first {m : Int} {n : Nat} {d : List Int} {a b : List Nat} (hb : 0 < b.length) : visA m n d a b 0 1 = visA m n d a b 0 0 := by
  unfold visA
  rw [if_neg (by omega), if_pos rfl, vis_step hb]
  simp [vis, cross, agg]

theorem toN_getD {n : Nat} {l : List Int} (h : inB n l) {i : Nat} (hi : i < l.length) : ((toN l).getD i 0 : Int) = l.getD i 0 ∧ (toN l).getD i 0 < n := by
  have hm := h (l.getD i 0) (getD_mem hi)
  have e : (toN l).getD i 0 = (l.getD i 0).toNat := by
    unfold toN
    rw [List.getD_eq_getElem?_getD, List.getElem?_map, List.getD_eq_getElem?_getD, List.getElem?_eq_getElem hi]; rfl
  rw [e]
  omega

theorem betL_m {n : Int} {d : List Int} {m : Int} {a b : List Int} (h : ¬ (m = 1 ∨ m = 2 ∨ m = 3)) : betL n d m a b = (0, 0, 2) := by unfold betL; rw [if_pos h]
theorem betL_c {n : Int} {d : List Int} {m : Int} {a b : List Int} (hm : m = 1 ∨ m = 2 ∨ m = 3) (h : checkL n d ≠ 0) : betL n d m a b = (0, 0, checkL n d) := by unfold betL; rw [if_neg (by omega), if_pos h]
theorem betL_d {n : Nat} {d : List Int} {m : Int} {a b : List Int} (hm : m = 1 ∨ m = 2 ∨ m = 3) (hc : checkL n d = 0) (h : disL n a b ≠ 0) : betL n d m a b = (0, 0, disL n a b) := by
  unfold betL; rw [if_neg (by omega), if_neg (by omega), Int.toNat_natCast, if_pos h]
theorem betL_3 {n : Nat} {d : List Int} {a b : List Int} (hc : checkL n d = 0) (h : disL n a b = 0) : betL n d 3 a b = (lowN (gap 3 n d (toN a) (toN b)) ((a.length * b.length : Nat) : Int), lowD (gap 3 n d (toN a) (toN b)) ((a.length * b.length : Nat) : Int), 0) := by
  unfold betL; rw [if_neg (by omega), if_neg (by omega), Int.toNat_natCast, if_neg (by omega), if_pos rfl]
theorem betL_1 {n : Nat} {d : List Int} {m : Int} {a b : List Int} (hm : m = 1 ∨ m = 2 ∨ m = 3) (h3 : m ≠ 3) (hc : checkL n d = 0) (h : disL n a b = 0) : betL n d m a b = (gap m n d (toN a) (toN b), 1, 0) := by
  unfold betL; rw [if_neg (by omega), if_neg (by omega), Int.toNat_natCast, if_neg (by omega), if_neg h3]

def betV (r : Int × Int × Int) : Value := .tuple #[.agg #[.int .i64 r.1, .int .i64 r.2.1], .int .i64 r.2.2]

theorem checkL_nat {n : Int} {d : List Int} (h : checkL n d = 0) : ∃ k : Nat, n = k := by
  by_cases hn : n < 0
  · rw [checkL_arg (.inl hn)] at h; cases h
  · exact ⟨n.toNat, by omega⟩

set_option maxHeartbeats 8000000 in
set_option maxRecDepth 100000 in
theorem between_ok (w : World) (n : Int) (m : Int) (ao : Option Addr) (len cap b off : Nat) (d : List Int) (hz : InRow .i64 w ao len b off d) (hlen : len ≤ 9223372036854775807)
    (xo yo : Option Addr) (la lb ca cb pa pb oa ob : Nat) (xs ys : List Int) (hx : InRow .i64 w xo la pa oa xs) (hy : InRow .i64 w yo lb pb ob ys) (hla : la ≤ 1000000000) (hlb : lb ≤ 1000000000) :
    Calls Try.prog 18 #[.int .i64 n, .slice ao len cap, .int .i64 m, .slice xo la ca, .slice yo lb cb] w (RetB (betV (betL n d m xs ys)) w) := by
  have HZ := Lib.hid hz
  have HX := Lib.hid hx
  have HY := Lib.hid hy
  clear hz hx hy
  go_enter Try.func18, Try.ntmps18
  go_wp2_with fail
  generalize hW : World.alloc w _ = W
  have B0 : Hid (Blk W w.heap.size 37 [.int .i64 0, .int .i64 0]) := by show Blk _ _ _ _; rw [← hW]; exact Blk.new w _ _
  have HB : Hid (Below w.heap.size w W) := by show Below _ _ _; rw [← hW]; exact (Below.refl _ _).alloc (Nat.le_refl _) _
  clear hW
  with_reducible refine (mixer_ok m W).mono ?_
  rintro e w1 ⟨rfl, rfl⟩
  by_cases hm : m = 1 ∨ m = 2 ∨ m = 3
  · obtain ⟨fk, hfk, hen, hcl⟩ := mixF_spec hm
    have HM := Lib.hid hm
    have HCL := Lib.hid hcl
    have HEN := Lib.hid hen
    rw [hfk]
    clear hfk hm hcl hen
    have q1 : (binOp BinOp.eql 52 (Value.func (Fn.func fk) #[] #[]) Value.nilFunc).run Try.prog W = .ok (.bool false) W := rfl
    go_wp2_with fail
    clear q1
    with_reducible refine (check_any W n ao len cap b off d (HZ.out.below HB.out) hlen).mono ?_
    rintro e w1 ⟨rfl, hb1⟩
    have B1 := Lib.hid (B0.out.below hb1 B0.out.lt)
    have HB1 := Lib.hid (HB.out.trans (hb1.mono HB.out.size))
    clear hb1 B0 HB
    by_cases hc : checkL n d = 0
    · obtain ⟨k, rfl⟩ := checkL_nat hc
      have HDO := Lib.hid (DOk.of_check hc)
      have hk := HDO.out.hn
      have HC := Lib.hid hc
      rw [hc]
      clear hc
      go_wp2_with fail
      with_reducible refine (disjoint_ok w1 k hk xo yo la lb ca cb pa pb oa ob xs ys (HX.out.below HB1.out) (HY.out.below HB1.out) hla hlb).mono ?_
      rintro e w2 ⟨rfl, hb2⟩
      have B2 := Lib.hid (B1.out.below hb2 B1.out.lt)
      have HB2 := Lib.hid (HB1.out.trans (hb2.mono HB1.out.size))
      clear hb2 B1 HB1
      by_cases hdi : disL k xs ys = 0
      · have HDI := Lib.hid hdi
        rw [hdi]
        clear hdi
        obtain ⟨hbx, hby, hx0, hy0, hnd⟩ := disL_zero HDI.out
        have HBX := Lib.hid hbx
        have HBY := Lib.hid hby
        have hlab : la + lb ≤ k := by
          have := nodup_len k (xs ++ ys) hnd (fun z hz => by rcases List.mem_append.1 hz with h | h; exact hbx z h; exact hby z h)
          rw [List.length_append, HX.out.size, HY.out.size] at this
          exact this
        rw [HX.out.size] at hx0
        rw [HY.out.size] at hy0
        clear hbx hby hnd
        obtain rfl := HX.out.adr hx0
        obtain rfl := HY.out.adr hy0
        have HZ2 := Lib.hid (HZ.out.below HB2.out)
        have HX2 := Lib.hid (HX.out.below HB2.out)
        have HY2 := Lib.hid (HY.out.below HB2.out)
        have ga := toN_getD HBX.out (i := 0) (by rw [HX.out.size]; exact hx0)
        have gb := toN_getD HBY.out (i := 0) (by rw [HY.out.size]; exact hy0)
        have c0 := HX2.out.cell 0 hx0
        have c1 := HY2.out.cell 0 hy0
        rw [← ga.1, Nat.add_zero] at c0
        rw [← gb.1, Nat.add_zero] at c1
        have HLL : Hid (len = k * k) := by rw [← HZ.out.size]; exact HDO.out.len
        have hlz : 0 < len := by rw [HLL.out]; exact Nat.mul_pos (by omega) (by omega)
        obtain rfl := HZ.out.adr hlz
        have hix : (toN xs).getD 0 0 * k + (toN ys).getD 0 0 < len := by rw [HLL.out]; exact idx_lt ga.2 gb.2
        have c2 := HZ2.out.cell _ hix
        have hlb2 : len ≤ 16384 := by rw [HLL.out]; exact Nat.mul_le_mul hk hk
        have HV0 : Hid (visA m k d (toN xs) (toN ys) 0 0 = d.getD ((toN xs).getD 0 0 * k + (toN ys).getD 0 0) 0) := rfl
        obtain ⟨a0, HA0⟩ : ∃ a0, Hid ((toN xs).getD 0 0 = a0) := ⟨_, rfl⟩
        obtain ⟨b0, HB0⟩ : ∃ b0, Hid ((toN ys).getD 0 0 = b0) := ⟨_, rfl⟩
        rw [HA0.out] at c0 c2 hix HV0
        rw [HB0.out] at c1 c2 hix HV0
        have e1 : (a0 : Int) * (k : Int) = ((a0 * k : Nat) : Int) := by rw [Int.natCast_mul]
        generalize a0 * k = ak at *
        obtain ⟨ix, hixe⟩ : ∃ ix, ak + b0 = ix := ⟨_, rfl⟩
        have w0 : (ak : Int) + (b0 : Int) = (ix : Int) := by omega
        rw [hixe] at hix c2 HV0
        have i1 : (ix : Int) < (len : Int) := by omega
        have v1 : IntKind.i64.wrap (ak : Int) = (ak : Int) := IntWalk.i64_in _ (by omega)
        have v2 : IntKind.i64.wrap (ix : Int) = (ix : Int) := IntWalk.i64_in _ (by omega)
        clear hixe ga gb
        generalize d.getD ix 0 = z0 at c2 HV0
        go_wp2_with fail
        go_quiet (fail)
        have HB3 : Hid (Below w.heap.size w (w2.drewN nq)) := bel_drewN HB2.out _
        have B3 : Hid (Blk (w2.drewN nq) w.heap.size 37 [.int .i64 0, .int .i64 0]) := B2.out.drewN _
        have HZ3 := Lib.hid (HZ.out.below HB3.out)
        have HX3 := Lib.hid (HX.out.below HB3.out)
        have HY3 := Lib.hid (HY.out.below HB3.out)
        generalize w2.drewN nq = w3 at *
        go_wp2_with fail
        clear c0 c1 c2 e1 w0 v1 v2 i1 hix HZ2 HX2 HY2 B2 HB2
        rw [← HV0.out]
        clear HV0 HA0 HB0
        go_loopw [15, 54] (fun s15 s54 wr => ∃ i : Nat, i ≤ la ∧ s54 = .int .i64 i ∧ s15 = .int .i64 (visA m k d (toN xs) (toN ys) i 0) ∧ wr = w3) (fun _ s _ => la - (intOf s).toNat)
        case atStart => exact ⟨0, Nat.zero_le _, rfl, rfl, rfl⟩
        case round =>
          obtain ⟨i, hi, rfl, rfl, hwr⟩ := hrel
          subst hwr
          by_cases hil : i < la
          · have gi := toN_getD HBX.out (i := i) (by rw [HX.out.size]; exact hil)
            have c0 := HX3.out.cell i hil
            rw [← gi.1] at c0
            have t0 : (i : Int) < (la : Int) := by omega
            obtain ⟨xi, HXI⟩ : ∃ xi, Hid ((toN xs).getD i 0 = xi) := ⟨_, rfl⟩
            rw [HXI.out] at c0 gi
            have hxi := gi.2
            clear gi
            go_wp2_with fail
            obtain ⟨wq, hwq⟩ : ∃ wq : World, wq = wr := ⟨_, rfl⟩
            go_loopw [15, 61] (fun s15 s61 wr => ∃ j : Nat, j ≤ lb ∧ s61 = .int .i64 j ∧ s15 = .int .i64 (visA m k d (toN xs) (toN ys) i j) ∧ wr = wq) (fun _ s _ => lb - (intOf s).toNat)
            case atStart => exact ⟨0, Nat.zero_le _, rfl, rfl, hwq.symm⟩
            case round =>
              obtain ⟨j, hj, rfl, rfl, hwr⟩ := hrel
              subst hwr
              subst hwq
              by_cases hjl : j < lb
              · have gj := toN_getD HBY.out (i := j) (by rw [HY.out.size]; exact hjl)
                have c1 := HY3.out.cell j hjl
                rw [← gj.1] at c1
                have t1 : (j : Int) < (lb : Int) := by omega
                obtain ⟨yj, HYJ⟩ : ∃ yj, Hid ((toN ys).getD j 0 = yj) := ⟨_, rfl⟩
                rw [HYJ.out] at c1 gj
                have hyj := gj.2
                clear gj
                obtain ⟨ij, hij⟩ : ∃ ij, i + j = ij := ⟨_, rfl⟩
                have s0 : (i : Int) + (j : Int) = (ij : Int) := by omega
                have s1 : IntKind.i64.wrap (ij : Int) = (ij : Int) := IntWalk.i64_in _ (by omega)
                by_cases h0 : ij = 0
                · have t3 : decide (0 < ij) = false := by simp [h0]
                  have HN : Hid (visA m k d (toN xs) (toN ys) i (j + 1) = visA m k d (toN xs) (toN ys) i j) := by
                    show _ = _
                    rw [show i = 0 by omega, show j = 0 by omega]
                    exact visA_first (by simp only [toN, List.length_map]; rw [HY.out.size]; exact hy0)
                  clear h0 hij
                  generalize visA m k d (toN xs) (toN ys) i j = al at *
                  go_wp2_with fail
                  go_roundw
                  case rel => exact ⟨j + 1, by omega, by go_num, by rw [HN.out], by first | rfl | trivial⟩
                  case measure => simp [intOf]; omega
                · have t3 : decide (0 < ij) = true := by simp; omega
                  have HN : Hid (visA m k d (toN xs) (toN ys) i (j + 1) = mixV m (visA m k d (toN xs) (toN ys) i j) (at2 k d xi yj)) := by
                    show _ = _
                    rw [← HXI.out, ← HYJ.out]
                    exact visA_step HM.out HDO.out (by simp only [toN, List.length_map]; rw [HX.out.size]; omega) (by simp only [toN, List.length_map]; rw [HY.out.size]; omega) (by simp only [toN, List.length_map]; rw [HX.out.size]; exact hil) (by simp only [toN, List.length_map]; rw [HY.out.size]; exact hjl) (by omega)
                  have hix : xi * k + yj < len := by rw [HLL.out]; exact idx_lt hxi hyj
                  have c2 := HZ3.out.cell _ hix
                  have HAT : Hid (at2 k d xi yj = d.getD (xi * k + yj) 0) := rfl
                  have e1 : (xi : Int) * (k : Int) = ((xi * k : Nat) : Int) := by rw [Int.natCast_mul]
                  generalize xi * k = xk at *
                  obtain ⟨iy, hiy⟩ : ∃ iy, xk + yj = iy := ⟨_, rfl⟩
                  have w0 : (xk : Int) + (yj : Int) = (iy : Int) := by omega
                  rw [hiy] at hix c2 HAT
                  have i1 : (iy : Int) < (len : Int) := by omega
                  have v1 : IntKind.i64.wrap (xk : Int) = (xk : Int) := IntWalk.i64_in _ (by omega)
                  have v2 : IntKind.i64.wrap (iy : Int) = (iy : Int) := IntWalk.i64_in _ (by omega)
                  rw [← HAT.out] at c2
                  clear hiy h0 hij HAT
                  generalize at2 k d xi yj = dz at *
                  generalize visA m k d (toN xs) (toN ys) i j = al at *
                  have hen := HEN.out
                  go_wp2_with fail
                  with_reducible refine (HCL.out _ _ _).mono ?_
                  rintro e w4 ⟨rfl, rfl⟩
                  rw [← HN.out]
                  go_wp2_with fail
                  go_roundw
                  case rel => exact ⟨j + 1, by omega, by go_num, rfl, by first | rfl | trivial⟩
                  case measure => simp [intOf]; omega
              · obtain rfl : lb = j := by omega
                have HN : Hid (visA m k d (toN xs) (toN ys) i lb = visA m k d (toN xs) (toN ys) (i + 1) 0) := by
                  show _ = _
                  unfold visA
                  have := vis_next (n := k) (d := d) (a := toN xs) (b := toN ys) (i := i) (by simp only [toN, List.length_map]; rw [HX.out.size]; exact hil)
                  rw [show (toN ys).length = lb by simp only [toN, List.length_map]; exact HY.out.size] at this
                  rw [if_neg (by omega), if_neg (by omega), this]
                go_wp2_with fail
                go_roundw
                case rel => exact ⟨i + 1, by omega, by go_num, by rw [HN.out], by first | rfl | trivial⟩
                case measure => simp [intOf]; omega
          · obtain rfl : la = i := by omega
            have HG : Hid (visA m k d (toN xs) (toN ys) la 0 = gap m k d (toN xs) (toN ys)) := by
              show _ = _
              unfold visA gap
              rw [if_neg (by omega), ← vis_end, show (toN xs).length = la by simp only [toN, List.length_map]; exact HX.out.size]
            rw [HG.out]
            have hgl := gap_lim (m := m) HDO.out (l1 := toN xs) (l2 := toN ys) (by simp only [toN, List.length_map]; rw [HX.out.size]; omega) (by simp only [toN, List.length_map]; rw [HY.out.size]; omega)
            clear HG
            by_cases h3 : m = 3
            · subst h3
              have HE : Hid (betL k d 3 xs ys = (lowN (gap 3 k d (toN xs) (toN ys)) ((la * lb : Nat) : Int), lowD (gap 3 k d (toN xs) (toN ys)) ((la * lb : Nat) : Int), 0)) := by
                have := betL_3 (n := k) (d := d) (a := xs) (b := ys) HC.out HDI.out
                rw [HX.out.size, HY.out.size] at this
                exact this
              have hpos : 0 < la * lb := Nat.mul_pos hx0 hy0
              have hle : la * lb ≤ 128 * 128 := Nat.mul_le_mul (by omega) (by omega)
              have e1 : (la : Int) * (lb : Int) = ((la * lb : Nat) : Int) := by rw [Int.natCast_mul]
              generalize la * lb = ll at *
              generalize gap 3 k d (toN xs) (toN ys) = gg at *
              go_wp2_with fail
              with_reducible refine (reduce_int gg (ll : Int) hgl.1 (by omega) (by omega) (by omega) wr).mono ?_
              rintro e w4 ⟨rfl, hb4⟩
              have B4 := Lib.hid (B3.out.below hb4 B3.out.lt)
              have HB4 := Lib.hid (HB3.out.trans (hb4.mono HB3.out.size))
              have z0 := B4.out.cell (i := 0) rfl
              have z1 := B4.out.cell (i := 1) rfl
              have f0 := B4.out.free 0
              have f1 := B4.out.free 1
              clear hb4
              obtain ⟨p, HP⟩ : ∃ p, Hid (lowN gg (ll : Int) = p) := ⟨_, rfl⟩
              obtain ⟨q, HQ⟩ : ∃ q, Hid (lowD gg (ll : Int) = q) := ⟨_, rfl⟩
              rw [HP.out, HQ.out] at HE ⊢
              go_wp2_with fail
              refine bodyPost_ret (v := betV (p, q, 0)) ?_ rfl ⟨by rw [HE.out], ?_⟩
              · simp [results, Try.results18, go_sem, z0, z1, betV]
              · exact HB4.out.trans (Mod.below (F := fun x => x = w.heap.size) (((Mod.refl (fun x => x = w.heap.size) _).setCell ⟨w.heap.size, 0, none⟩ (fun _ => rfl) _).setCell ⟨w.heap.size, 1, none⟩ (fun _ => rfl) _) HB4.out.size (fun x hx => by have e : x = w.heap.size := hx; omega))
            · have t4 : (m != 3) = true := by simp [h3]
              have HE : Hid (betL k d m xs ys = (gap m k d (toN xs) (toN ys), 1, 0)) := betL_1 HM.out h3 HC.out HDI.out
              clear h3
              generalize gap m k d (toN xs) (toN ys) = gg at *
              have z0 := B3.out.cell (i := 0) rfl
              have z1 := B3.out.cell (i := 1) rfl
              have f0 := B3.out.free 0
              have f1 := B3.out.free 1
              go_wp2_with fail
              refine bodyPost_ret (v := betV (gg, 1, 0)) ?_ rfl ⟨by rw [HE.out], ?_⟩
              · simp [results, Try.results18, go_sem, z0, z1, betV]
              · exact HB3.out.trans (Mod.below (F := fun x => x = w.heap.size) (((Mod.refl (fun x => x = w.heap.size) _).setCell ⟨w.heap.size, 0, none⟩ (fun _ => rfl) _).setCell ⟨w.heap.size, 1, none⟩ (fun _ => rfl) _) HB3.out.size (fun x hx => by have e : x = w.heap.size := hx; omega))
      · have t5 : (disL k xs ys != 0) = true := by simp [hdi]
        have HE : Hid (betL k d m xs ys = (0, 0, disL k xs ys)) := betL_d HM.out HC.out hdi
        clear hdi
        have z0 := B2.out.cell (i := 0) rfl
        have z1 := B2.out.cell (i := 1) rfl
        have f0 := B2.out.free 0
        have f1 := B2.out.free 1
        generalize disL k xs ys = er at *
        go_wp2_with fail
        refine bodyPost_ret (v := betV (0, 0, er)) ?_ rfl ⟨by rw [HE.out], ?_⟩
        · simp [results, Try.results18, go_sem, z0, z1, betV]
        · exact HB2.out.trans (Mod.below (F := fun x => x = w.heap.size) (((Mod.refl (fun x => x = w.heap.size) _).setCell ⟨w.heap.size, 0, none⟩ (fun _ => rfl) _).setCell ⟨w.heap.size, 1, none⟩ (fun _ => rfl) _) HB2.out.size (fun x hx => by have e : x = w.heap.size := hx; omega))
    · have t5 : (checkL n d != 0) = true := by simp [hc]
      have HE : Hid (betL n d m xs ys = (0, 0, checkL n d)) := betL_c HM.out hc
      clear hc
      have z0 := B1.out.cell (i := 0) rfl
      have z1 := B1.out.cell (i := 1) rfl
      have f0 := B1.out.free 0
      have f1 := B1.out.free 1
      generalize checkL n d = er at *
      go_wp2_with fail
      refine bodyPost_ret (v := betV (0, 0, er)) ?_ rfl ⟨by rw [HE.out], ?_⟩
      · simp [results, Try.results18, go_sem, z0, z1, betV]
      · exact HB1.out.trans (Mod.below (F := fun x => x = w.heap.size) (((Mod.refl (fun x => x = w.heap.size) _).setCell ⟨w.heap.size, 0, none⟩ (fun _ => rfl) _).setCell ⟨w.heap.size, 1, none⟩ (fun _ => rfl) _) HB1.out.size (fun x hx => by have e : x = w.heap.size := hx; omega))
  · rw [mixF_nil hm]
    have HE : Hid (betL n d m xs ys = (0, 0, 2)) := betL_m hm
    clear hm
    have z0 := B0.out.cell (i := 0) rfl
    have z1 := B0.out.cell (i := 1) rfl
    have f0 := B0.out.free 0
    have f1 := B0.out.free 1
    have q1 : (binOp BinOp.eql 52 Value.nilFunc Value.nilFunc).run Try.prog W = .ok (.bool true) W := rfl
    go_wp2_with fail
    refine bodyPost_ret (v := betV (0, 0, 2)) ?_ rfl ⟨by rw [HE.out], ?_⟩
    · simp [results, Try.results18, go_sem, z0, z1, betV]
    · exact HB.out.trans (Mod.below (F := fun x => x = w.heap.size) (((Mod.refl (fun x => x = w.heap.size) _).setCell ⟨w.heap.size, 0, none⟩ (fun _ => rfl) _).setCell ⟨w.heap.size, 1, none⟩ (fun _ => rfl) _) HB.out.size (fun x hx => by have e : x = w.heap.size := hx; omega))

end Go.Proofs.Ythacjealoomioaa.Lk

/- linkage: merged, Labels. -/
namespace Go.Proofs.Ythacjealoomioaa.Lk
set_option linter.unusedVariables false
set_option linter.unusedSimpArgs false
open Go.RowKit

def ident (n : Nat) : List Int := (List.range n).map fun i : Nat => (i : Int)
def szOf (now : List Int) : List Int := (List.range 128).map fun i : Nat => (now.count (i : Int) : Int)
def relab (A B : Int) (now : List Int) : List Int := now.map fun y => if y = B then A else y
def relabTo (A B : Int) (now : List Int) (x : Nat) : List Int := relab A B (now.take x) ++ now.drop x

def mbad (n : Nat) (now : List Int) (x : Mg) : Prop := x.A < 0 ∨ x.B ≤ x.A ∨ (n : Int) ≤ x.B ∨ now.count x.A = 0 ∨ now.count x.B = 0 ∨ x.S ≠ (now.count x.A : Int) + (now.count x.B : Int)
instance (n : Nat) (now : List Int) (x : Mg) : Decidable (mbad n now x) := by unfold mbad; infer_instance
def mstep (n : Nat) (now : List Int) (x : Mg) : Option (List Int) := if mbad n now x then none else some (relab x.A x.B now)
def mrunTo (n : Nat) (ms : List Mg) : Nat → Option (List Int)
  | 0 => some (ident n)
  | k + 1 => (mrunTo n ms k).bind fun now => mstep n now (ms.getD k mg0)

theorem mrunTo_none {n : Nat} {ms : List Mg} {k : Nat} (h : mrunTo n ms k = none) : ∀ j, mrunTo n ms (k + j) = none
  | 0 => h
  | j + 1 => by rw [← Nat.add_assoc, mrunTo, mrunTo_none h j]; rfl

theorem mrunTo_take {n : Nat} {ms : List Mg} {c : Nat} : ∀ k, k ≤ c → mrunTo n (ms.take c) k = mrunTo n ms k
  | 0, _ => rfl
  | k + 1, h => by
    rw [mrunTo, mrunTo, mrunTo_take k (by omega)]
    have : (ms.take c).getD k mg0 = ms.getD k mg0 := by
      rw [List.getD_eq_getElem?_getD, List.getD_eq_getElem?_getD, List.getElem?_take, if_pos (by omega)]
    rw [this]

theorem relab_length (A B : Int) (now : List Int) : (relab A B now).length = now.length := by simp [relab]

theorem mrunTo_length {n : Nat} {ms : List Mg} : ∀ {k : Nat} {now : List Int}, mrunTo n ms k = some now → now.length = n
  | 0, now, h => by injection h with h; rw [← h]; simp [ident]
  | k + 1, now, h => by
    rw [mrunTo] at h
    obtain ⟨prev, h1, h2⟩ := Option.bind_eq_some_iff.1 h
    unfold mstep at h2
    split at h2
    · cases h2
    · injection h2 with h2
      rw [← h2, relab_length]
      exact mrunTo_length h1

theorem count_relab {a b : Int} (hab : a ≠ b) (i : Int) (now : List Int) : (relab a b now).count i = if i = b then 0 else if i = a then now.count a + now.count b else now.count i := by
  induction now with
  | nil => simp [relab]
  | cons y l ih =>
    have e : relab a b (y :: l) = (if y = b then a else y) :: relab a b l := rfl
    rw [e, List.count_cons, ih, List.count_cons, List.count_cons, List.count_cons]
    by_cases hy : y = b
    · subst hy
      by_cases hi : i = y
      · subst hi; simp [hab]
      · by_cases hia : i = a
        · subst hia; simp [hi, Ne.symm hi]; omega
        · simp [hi, hia, Ne.symm hi, Ne.symm hia]
    · by_cases hi : i = b
      · subst hi; simp [hy]
      · by_cases hia : i = a
        · subst hia; simp [hi, hy]; omega
        · simp [hi, hia, hy]

theorem szOf_length (now : List Int) : (szOf now).length = 128 := by simp [szOf]

theorem szOf_get {now : List Int} {i : Nat} (h : i < 128) : (szOf now)[i]? = some (now.count (i : Int) : Int) := by
  simp [szOf, List.getElem?_range h]

theorem szOf_getD {now : List Int} {i : Nat} (h : i < 128) : (szOf now).getD i 0 = (now.count (i : Int) : Int) := by
  rw [List.getD_eq_getElem?_getD, szOf_get h]; rfl

theorem szOf_step {now : List Int} {a b : Nat} (ha : a < 128) (hb : b < 128) (hab : a ≠ b) : ((szOf now).set a ((now.count (a : Int) : Int) + (now.count (b : Int) : Int))).set b 0 = szOf (relab a b now) := by
  apply List.ext_getElem?
  intro i
  by_cases hi : i < 128
  · rw [szOf_get hi, count_relab (by omega)]
    by_cases e1 : i = b
    · subst e1
      rw [List.getElem?_set_self (by simp [szOf_length]; omega), if_pos rfl]; rfl
    · rw [List.getElem?_set_ne (by omega), if_neg (by omega)]
      by_cases e2 : i = a
      · subst e2
        rw [List.getElem?_set_self (by simp [szOf_length]; omega), if_pos rfl]; simp
      · rw [List.getElem?_set_ne (by omega), if_neg (by omega), szOf_get hi]
  · rw [List.getElem?_eq_none (by simp [szOf_length]; omega), List.getElem?_eq_none (by simp [szOf_length]; omega)]

theorem count_ident (i n : Nat) : (ident n).count (i : Int) = if i < n then 1 else 0 := by
  induction n with
  | zero => simp [ident]
  | succ n ih =>
    have e : ident (n + 1) = ident n ++ [(n : Int)] := by simp [ident, List.range_succ]
    rw [e, List.count_append, ih, List.count_singleton]
    by_cases h : i = n
    · subst h; simp
    · have h2 : ((n : Int) == (i : Int)) = false := by simp; omega
      by_cases h3 : i < n
      · simp [h3, h2, show i < n + 1 by omega]
      · have h4 : ¬ i < n + 1 := by omega
        simp [h3, h2, h4]

theorem szOf_ident {n : Nat} (hn : n ≤ 128) : szOf (ident n) = onesTo n := by
  apply List.ext_getElem?
  intro i
  by_cases hi : i < 128
  · rw [szOf_get hi, count_ident]
    unfold onesTo
    by_cases h : i < n
    · rw [List.getElem?_append_left (by simp; omega), if_pos h]; simp [h]
    · rw [List.getElem?_append_right (by simp; omega), if_neg h]; simp [List.getElem?_replicate]; omega
  · rw [List.getElem?_eq_none (by simp [szOf_length]; omega), List.getElem?_eq_none (by simp [onesTo]; omega)]

def identTo (n k : Nat) : List Int := (List.range k).map (fun i : Nat => (i : Int)) ++ List.replicate (n - k) 0

theorem identTo_step {n k : Nat} (h : k < n) : (identTo n k).set k (k : Int) = identTo n (k + 1) := by
  unfold identTo
  rw [List.set_append_right _ _ (by simp), show k - ((List.range k).map (fun i : Nat => (i : Int))).length = 0 by simp, show n - k = (n - (k + 1)) + 1 by omega, List.replicate_succ, List.set_cons_zero, List.range_succ, List.map_append, List.append_assoc]
  rfl

theorem identTo_end (n : Nat) : identTo n n = ident n := by simp [identTo, ident]

theorem onesTo_step' {k : Nat} (hk : k < 128) : (onesTo k).set k 1 = onesTo (k + 1) := by
  unfold onesTo
  rw [List.set_append_right _ _ (by simp), List.length_replicate, Nat.sub_self, show 128 - k = (128 - (k + 1)) + 1 by omega, List.replicate_succ, List.set_cons_zero, List.replicate_succ', List.append_assoc]
  rfl

theorem relabTo_length (A B : Int) (now : List Int) {x : Nat} (h : x ≤ now.length) : (relabTo A B now x).length = now.length := by
  simp [relabTo, relab]; omega

theorem relabTo_at (A B : Int) {now : List Int} {x : Nat} (h : x < now.length) : (relabTo A B now x)[x]? = now[x]? := by
  unfold relabTo
  rw [List.getElem?_append_right (by simp [relab]; omega)]
  simp [relab, Nat.min_eq_left (Nat.le_of_lt h)]

theorem relabTo_step (A B : Int) {now : List Int} {x : Nat} (h : x < now.length) : relabTo A B now (x + 1) = if now.getD x 0 = B then (relabTo A B now x).set x A else relabTo A B now x := by
  unfold relabTo
  have e1 : now.take (x + 1) = now.take x ++ [now[x]] := List.take_succ_eq_append_getElem h
  have e2 : now.drop x = now[x] :: now.drop (x + 1) := List.drop_eq_getElem_cons h
  have e3 : now.getD x 0 = now[x] := by rw [List.getD_eq_getElem?_getD, List.getElem?_eq_getElem h]; rfl
  have e4 : relab A B (now.take x ++ [now[x]]) = relab A B (now.take x) ++ [if now[x] = B then A else now[x]] := by simp only [relab, List.map_append, List.map_cons, List.map_nil]
  have e5 : (relab A B (now.take x)).length = x := by simp [relab]; omega
  rw [e1, e2, e3, e4, List.append_assoc]
  split
  · rw [List.set_append_right _ _ (by omega), e5, Nat.sub_self, List.set_cons_zero]; rfl
  · rfl

theorem relabTo_end (A B : Int) (now : List Int) : relabTo A B now now.length = relab A B now := by simp [relabTo]

theorem map_set_int (l : List Int) (i : Nat) (x : Int) : (l.map fun y => Value.int .i64 y).set i (.int .i64 x) = (l.set i x).map fun y => Value.int .i64 y := by rw [List.map_set]

theorem blk_set_int {w : World} {b : Nat} {T : TypeId} {l : List Int} (h : Blk w b T (l.map fun y => .int .i64 y)) (i : Nat) (x : Int) : Blk (w.setCell ⟨b, i, none⟩ (.int .i64 x)) b T ((l.set i x).map fun y => .int .i64 y) := by
  rw [← map_set_int]; exact h.set i _

theorem blk_int {w : World} {b : Nat} {T : TypeId} {l : List Int} (h : Blk w b T (l.map fun y => .int .i64 y)) {i : Nat} (hi : i < l.length) : w.cell? ⟨b, i, none⟩ = some (.int .i64 (l.getD i 0)) :=
  h.cell (by simp [hi])

/-- What merged returns. -/
structure MgPost (n : Nat) (r : Option (List Int)) (w : World) (e : Ending) (w' : World) : Prop where
  no : r = none → e = .returned (.tuple #[.slice none 0 0, .bool false])
  yes : ∀ now, r = some now → ∃ b, e = .returned (.tuple #[.slice (some ⟨b, 0, none⟩) n n, .bool true]) ∧ Blk w' b 3 (now.map fun y => .int .i64 y) ∧ w.heap.size ≤ b
  bel : Below w.heap.size w w'

theorem Try.infoInt : (Try.prog.info? 3).map (fun i => (i.zero, i.size, i.bytes)) = some (some (.int .i64 0), 1, 8) := by kernel_rfl
theorem Try.zero128 : (Try.prog.info? 56).bind (·.zero) = some (.agg (List.replicate 128 (.int .i64 0)).toArray) := by kernel_rfl

set_option maxHeartbeats 8000000 in
set_option maxRecDepth 100000 in
theorem merged_ok (w : World) (n : Nat) (hn : n ≤ 128) (ao : Option Addr) (len cap b off : Nat) (ms : List Mg) (hr : MRow w ao len b off ms) (hl : len ≤ 1000000000) (hS : ∀ x ∈ ms, I64 x.A ∧ I64 x.B ∧ I64 x.S) :
    Calls Try.prog 39 #[.int .i64 n, .slice ao len cap] w (MgPost n (mrunTo n ms len) w) := by
  have HR := Lib.hid hr
  have HS := Lib.hid hS
  have HBW : Hid (0 < len → b < w.heap.size) := fun h => hr.lt h
  clear hr hS
  go_enter Try.func39, Try.ntmps39
  go_wp2_with (first | (at_make; refine wpList_makeB 3 (.int .i64 0) 8 Try.underlying28 Try.infoInt rfl _ _ _ _ n rfl rfl rfl rfl (by omega) (by unfold maxLen; omega) ?_; intro w1 B1 hb1) | (with_reducible refine wpList_allocB _ Try.zero128 ?_; intro w2 B2 hb2))
  have HL0 : Hid (Blk w2 w.heap.size 3 ((identTo n 0).map fun y => .int .i64 y) ∧ Blk w2 w1.heap.size 56 ((onesTo 0).map fun y => .int .i64 y) ∧ Below w.heap.size w w2) := by
    refine ⟨?_, ?_, hb1.trans (hb2.mono hb1.size)⟩
    · have := B1.below hb2 B1.lt
      simpa [identTo] using this
    · have e : (onesTo 0).map (fun y => Value.int .i64 y) = List.replicate 128 (.int .i64 0) := by simp [onesTo]
      rw [e]; exact B2
  have hne : ¬ (w1.heap.size = w.heap.size) := by have := B1.lt; omega
  have hne' : ¬ (w.heap.size = w1.heap.size) := fun e => hne e.symm
  have HSB : Hid (w.heap.size < w1.heap.size) := B1.lt
  generalize w1.heap.size = sb at *
  clear B1 B2 hb1 hb2
  go_loopw [19] (fun s wr => ∃ k : Nat, k ≤ n ∧ s = .int .i64 k ∧ Blk wr w.heap.size 3 ((identTo n k).map fun y => .int .i64 y) ∧ Blk wr sb 56 ((onesTo k).map fun y => .int .i64 y) ∧ Below w.heap.size w wr) (fun s _ => n - (intOf s).toNat)
  case atStart => exact ⟨0, Nat.zero_le _, rfl, HL0.out⟩
  case round =>
    obtain ⟨k, hk, rfl, b1, b2, hbl⟩ := hrel
    have HB1 := Lib.hid b1
    have HB2 := Lib.hid b2
    have HBL := Lib.hid hbl
    clear b1 b2 hbl
    by_cases hkn : k < n
    · have c1 := blk_int HB1.out (i := k) (by simp [identTo]; omega)
      have c2 := blk_int HB2.out (i := k) (by simp [onesTo]; omega)
      have f1 := HB1.out.free k
      have f2 := HB2.out.free k
      have t1 : (k : Int) < (n : Int) := by omega
      have t2 : (k : Int) < 128 := by omega
      generalize (identTo n k).getD k 0 = x1 at c1
      generalize (onesTo k).getD k 0 = x2 at c2
      go_wp2_with fail
      go_roundw
      case rel =>
        refine ⟨k + 1, by omega, by go_num, ?_, ?_, ?_⟩
        · rw [← identTo_step hkn]
          exact (blk_set_int HB1.out k k).other _ _ (by simpa using hne')
        · rw [← onesTo_step' (by omega)]
          exact blk_set_int (HB2.out.other _ _ (by simpa using hne)) k 1
        · exact HBL.out.trans (Mod.below (F := fun x => x = w.heap.size ∨ x = sb) (((Mod.refl _ _).setCell ⟨w.heap.size, k, none⟩ (fun _ => .inl rfl) _).setCell ⟨sb, k, none⟩ (fun _ => .inr rfl) _) HBL.out.size (fun x hx => by have h1 := HSB.out; rcases hx with e | e <;> omega))
      case measure => simp [intOf]; omega
    · obtain rfl : n = k := by omega
      go_wp2_with fail
      clear HL0
      obtain ⟨wq, rfl⟩ : ∃ wq : World, wq = wr := ⟨_, rfl⟩
      go_loopw [31] (fun s wr => ∃ k : Nat, k ≤ len ∧ s = .int .i64 k ∧ ∃ now, mrunTo n ms k = some now ∧ Blk wr w.heap.size 3 (now.map fun y => .int .i64 y) ∧ Blk wr sb 56 ((szOf now).map fun y => .int .i64 y) ∧ Below w.heap.size w wr) (fun s _ => len - (intOf s).toNat)
      case atStart => exact ⟨0, Nat.zero_le _, rfl, ident n, rfl, by rw [← identTo_end]; exact HB1.out, by rw [szOf_ident hn]; exact HB2.out, HBL.out⟩
      case round =>
        clear HB1 HB2 HBL
        obtain ⟨k, hk, rfl, now, hnow, b1, b2, hbl⟩ := hrel
        have HNOW := Lib.hid hnow
        have HB1 := Lib.hid b1
        have HB2 := Lib.hid b2
        have HBL := Lib.hid hbl
        have HLN := Lib.hid (mrunTo_length hnow)
        clear b1 b2 hbl hnow
        by_cases hkl : k < len
        · obtain rfl := HR.out.adr (by omega)
          have hbw := HBW.out (by omega)
          obtain ⟨m0, m1, m2, m3, m4⟩ := HR.out.cell k hkl
          have p0 := (HBL.out.cell (p := ⟨b, off + k * 5, none⟩) hbw).trans m0
          have p1 := (HBL.out.cell (p := ⟨b, off + k * 5 + 1, none⟩) hbw).trans m1
          have p2 := (HBL.out.cell (p := ⟨b, off + k * 5 + 2, none⟩) hbw).trans m2
          have p3 := (HBL.out.cell (p := ⟨b, off + k * 5 + 3, none⟩) hbw).trans m3
          have p4 := (HBL.out.cell (p := ⟨b, off + k * 5 + 4, none⟩) hbw).trans m4
          have HST : Hid (mrunTo n ms (k + 1) = mstep n now (ms.getD k mg0)) := by show _ = _; rw [mrunTo, HNOW.out]; rfl
          have hxi := HS.out (ms.getD k mg0) (by rw [List.getD_eq_getElem?_getD, List.getElem?_eq_getElem (by rw [HR.out.size]; exact hkl)]; exact List.getElem_mem _)
          generalize ms.getD k mg0 = x at p0 p1 p2 p3 p4 hxi HST
          obtain ⟨A, B, N, D, Z⟩ := x
          dsimp only at p0 p1 p2 p3 p4 hxi
          unfold I64 at hxi
          clear m0 m1 m2 m3 m4
          have HBAD : Hid (mbad n now ⟨A, B, N, D, Z⟩ → mrunTo n ms len = none) := fun hb => by
            have h1 : mrunTo n ms (k + 1) = none := by rw [HST.out]; unfold mstep; rw [if_pos hb]
            have := mrunTo_none h1 (len - (k + 1))
            rwa [show k + 1 + (len - (k + 1)) = len by omega] at this
          have t0 : (k : Int) < (len : Int) := by omega
          have HAL : Hid (Below wr.heap.size wr (wr.alloc (.cells #[.int .i64 A, .int .i64 B, .int .i64 N, .int .i64 D, .int .i64 Z] 39))) := (Below.refl _ _).alloc (Nat.le_refl _) _
          have HBX := Lib.hid (Blk.new wr 39 [.int .i64 A, .int .i64 B, .int .i64 N, .int .i64 D, .int .i64 Z])
          go_wp2_with fail
          have HX1 := Lib.hid (HB1.out.below HAL.out HB1.out.lt)
          have HX2 := Lib.hid (HB2.out.below HAL.out HB2.out.lt)
          have HBELX := Lib.hid (HBL.out.trans (HAL.out.mono HBL.out.size))
          have hst1 : ¬ (wr.heap.size = w.heap.size) := by have := HB1.out.lt; omega
          have hst2 : ¬ (wr.heap.size = sb) := by have := HB2.out.lt; omega
          generalize hw4 : World.alloc wr _ = w4 at *
          generalize wr.heap.size = st at *
          clear hw4 p0 p1 p2 p3 p4 HAL HB1 HB2 HBL t0
          have q0 := HBX.out.cell (i := 0) rfl
          have q1 := HBX.out.cell (i := 1) rfl
          go_quiet (fail)
          go_wp2_with fail
          have HX5 : Hid (Blk (w4.drewN nq) w.heap.size 3 (now.map fun y => .int .i64 y) ∧ Blk (w4.drewN nq) sb 56 ((szOf now).map fun y => .int .i64 y) ∧ Below w.heap.size w (w4.drewN nq) ∧ Blk (w4.drewN nq) st 39 [.int .i64 A, .int .i64 B, .int .i64 N, .int .i64 D, .int .i64 Z]) :=
            ⟨HX1.out.drewN _, HX2.out.drewN _, bel_drewN HBELX.out _, HBX.out.drewN _⟩
          generalize w4.drewN nq = w5 at *
          clear q0 q1 HX1 HX2 HBX HBELX
          by_cases h1 : A < 0
          · have t1 : decide (A < 0) = true := by simp [h1]
            have H1 := Lib.hid h1
            clear h1
            go_quiet (fail)
            go_wp2_with fail
            go_ret2
            exact ⟨fun _ => rfl, (fun now' h => by rw [HBAD.out (.inl H1.out)] at h; cases h), bel_drewN HX5.out.2.2.1 _⟩
          · have t1 : decide (A < 0) = false := by simp; omega
            obtain ⟨a, rfl⟩ := Int.eq_ofNat_of_zero_le (show 0 ≤ A by omega)
            by_cases h2 : B ≤ (a : Int)
            · have t2 : decide (B ≤ (a : Int)) = true := by simp [h2]
              have H2 := Lib.hid h2
              clear h1 h2
              go_quiet (fail)
              go_wp2_with fail
              go_ret2
              exact ⟨fun _ => rfl, (fun now' h => by rw [HBAD.out (.inr (.inl H2.out))] at h; cases h), bel_drewN HX5.out.2.2.1 _⟩
            · obtain ⟨bb, rfl⟩ := Int.eq_ofNat_of_zero_le (show 0 ≤ B by omega)
              have t2 : decide (bb ≤ a) = false := by simp; omega
              by_cases h3 : n ≤ bb
              · have t3 : decide (n ≤ bb) = true := by simp [h3]
                have H3 := Lib.hid h3
                clear h1 h2 h3
                go_quiet (fail)
                go_wp2_with fail
                go_ret2
                exact ⟨fun _ => rfl, (fun now' h => by rw [HBAD.out (.inr (.inr (.inl (by have := H3.out; simp; omega))))] at h; cases h), bel_drewN HX5.out.2.2.1 _⟩
              · have t3 : decide (n ≤ bb) = false := by simp; omega
                have hab : a < bb := by omega
                have hbn : bb < n := by omega
                clear h1 h2 h3
                have i1 : (a : Int) < 128 := by omega
                have i2 : (bb : Int) < 128 := by omega
                have s1 := blk_int HX5.out.2.1 (i := a) (by rw [szOf_length]; omega)
                have s2 := blk_int HX5.out.2.1 (i := bb) (by rw [szOf_length]; omega)
                rw [szOf_getD (by omega)] at s1 s2
                have l1 : now.count (a : Int) ≤ 128 := Nat.le_trans (List.count_le_length) (by rw [HLN.out]; exact hn)
                have l2 : now.count (bb : Int) ≤ 128 := Nat.le_trans (List.count_le_length) (by rw [HLN.out]; exact hn)
                obtain ⟨ca, HCA⟩ : ∃ ca, Hid (now.count (a : Int) = ca) := ⟨_, rfl⟩
                obtain ⟨cb, HCB⟩ : ∃ cb, Hid (now.count (bb : Int) = cb) := ⟨_, rfl⟩
                rw [HCA.out] at s1 l1
                rw [HCB.out] at s2 l2
                by_cases h4 : ca = 0
                · have t4 : ((ca : Int) == 0) = true := by simp [h4]
                  have H4 := Lib.hid h4
                  clear h4
                  go_quiet (fail)
                  go_wp2_with fail
                  go_ret2
                  exact ⟨fun _ => rfl, (fun now' h => by rw [HBAD.out (.inr (.inr (.inr (.inl (HCA.out.trans H4.out)))))] at h; cases h), bel_drewN HX5.out.2.2.1 _⟩
                · have t4 : ((ca : Int) == 0) = false := by simp; omega
                  by_cases h5 : cb = 0
                  · have t5 : ((cb : Int) == 0) = true := by simp [h5]
                    have H5 := Lib.hid h5
                    clear h5
                    go_quiet (fail)
                    go_wp2_with fail
                    go_ret2
                    exact ⟨fun _ => rfl, (fun now' h => by rw [HBAD.out (.inr (.inr (.inr (.inr (.inl (HCB.out.trans H5.out))))))] at h; cases h), bel_drewN HX5.out.2.2.1 _⟩
                  · have t5 : ((cb : Int) == 0) = false := by simp; omega
                    have q3 := HX5.out.2.2.2.cell (i := 4) rfl
                    by_cases h6 : Z = (ca : Int) + (cb : Int)
                    · have t6 : (Z != (ca : Int) + (cb : Int)) = false := by simp [h6]
                      have H6 := Lib.hid h6
                      clear h6
                      have HGOOD : Hid (mrunTo n ms (k + 1) = some (relab a bb now)) := by
                        show _ = _
                        rw [HST.out]
                        unfold mstep
                        rw [if_neg]
                        unfold mbad
                        simp only [HCA.out, HCB.out]
                        have h6 := H6.out
                        omega
                      go_quiet (fail)
                      have HX6 : Hid (Blk (w5.drewN nq) w.heap.size 3 (now.map fun y => .int .i64 y) ∧ Blk (w5.drewN nq) sb 56 ((szOf now).map fun y => .int .i64 y) ∧ Below w.heap.size w (w5.drewN nq) ∧ Blk (w5.drewN nq) st 39 [.int .i64 a, .int .i64 bb, .int .i64 N, .int .i64 D, .int .i64 Z]) :=
                        ⟨HX5.out.1.drewN _, HX5.out.2.1.drewN _, bel_drewN HX5.out.2.2.1 _, HX5.out.2.2.2.drewN _⟩
                      generalize w5.drewN nq = w6 at *
                      clear s1 s2 q3 HX5 t1 t2 t3 t4 t5 t6
                      have s1 := blk_int HX6.out.2.1 (i := a) (by rw [szOf_length]; omega)
                      have s2 := blk_int HX6.out.2.1 (i := bb) (by rw [szOf_length]; omega)
                      have f1 := HX6.out.2.1.free a
                      have f2 := HX6.out.2.1.free bb
                      have q3 := HX6.out.2.2.2.cell (i := 4) rfl
                      have nab : ¬ (bb = a) := by omega
                      have nab' : ¬ (a = bb) := by omega
                      generalize (szOf now).getD a 0 = x1 at s1
                      generalize (szOf now).getD bb 0 = x2 at s2
                      have HY : Hid (Blk ((w6.setCell ⟨sb, a, none⟩ (.int .i64 Z)).setCell ⟨sb, bb, none⟩ (.int .i64 0)) w.heap.size 3 ((relabTo a bb now 0).map fun y => .int .i64 y) ∧ Blk ((w6.setCell ⟨sb, a, none⟩ (.int .i64 Z)).setCell ⟨sb, bb, none⟩ (.int .i64 0)) sb 56 ((szOf (relab a bb now)).map fun y => .int .i64 y) ∧ Below w.heap.size w ((w6.setCell ⟨sb, a, none⟩ (.int .i64 Z)).setCell ⟨sb, bb, none⟩ (.int .i64 0))) := by
                        refine ⟨?_, ?_, ?_⟩
                        · exact (HX6.out.1.other _ _ (by simpa using hne')).other _ _ (by simpa using hne')
                        · rw [← szOf_step (by omega) (by omega) (by omega)]
                          have e : Z = (now.count (a : Int) : Int) + (now.count (bb : Int) : Int) := by rw [HCA.out, HCB.out]; exact H6.out
                          rw [← e]
                          exact blk_set_int (blk_set_int HX6.out.2.1 a Z) bb 0
                        · exact HX6.out.2.2.1.trans (Mod.below (F := fun x => x = sb) (((Mod.refl (fun x => x = sb) _).setCell ⟨sb, a, none⟩ (fun _ => rfl) _).setCell ⟨sb, bb, none⟩ (fun _ => rfl) _) HX6.out.2.2.1.size (fun x hx => by have h1 := HSB.out; have h2 : x = sb := hx; omega))
                      go_wp2_with fail
                      generalize (w6.setCell ⟨sb, a, none⟩ (.int .i64 Z)).setCell ⟨sb, bb, none⟩ (.int .i64 0) = w7 at *
                      clear s1 s2 f1 f2 q3 HX6
                      obtain ⟨wq, rfl⟩ : ∃ wq : World, wq = wr := ⟨_, rfl⟩
                      go_loopw [83] (fun s wr => ∃ x : Nat, x ≤ n ∧ s = .int .i64 x ∧ Blk wr w.heap.size 3 ((relabTo a bb now x).map fun y => .int .i64 y) ∧ Blk wr sb 56 ((szOf (relab a bb now)).map fun y => .int .i64 y) ∧ Below w.heap.size w wr) (fun s _ => n - (intOf s).toNat)
                      case atStart => exact ⟨0, Nat.zero_le _, rfl, HY.out⟩
                      case round =>
                        obtain ⟨x, hx, rfl, b1, b2, hbl⟩ := hrel
                        have HB1 := Lib.hid b1
                        have HB2 := Lib.hid b2
                        have HBL := Lib.hid hbl
                        clear b1 b2 hbl HY
                        by_cases hxn : x < n
                        · have hxl : x < now.length := by rw [HLN.out]; exact hxn
                          have c1 := HB1.out.cell (i := x) (v := .int .i64 (now.getD x 0)) (by rw [List.getElem?_map, relabTo_at _ _ hxl, List.getD_eq_getElem?_getD, List.getElem?_eq_getElem hxl]; rfl)
                          have f1 := HB1.out.free x
                          have t7 : (x : Int) < (n : Int) := by omega
                          obtain ⟨y, HYX⟩ : ∃ y, Hid (now.getD x 0 = y) := ⟨_, rfl⟩
                          rw [HYX.out] at c1
                          by_cases hy : y = (bb : Int)
                          · have t8 : (y == (bb : Int)) = true := by simp [hy]
                            have HYY := Lib.hid hy
                            clear hy
                            go_wp2_with fail
                            go_roundw
                            case rel =>
                              refine ⟨x + 1, by omega, by go_num, ?_, HB2.out.other _ _ (by simpa using hne), ?_⟩
                              · rw [relabTo_step _ _ hxl, if_pos (HYX.out.trans HYY.out)]
                                exact blk_set_int HB1.out x a
                              · exact HBL.out.trans (Mod.below (F := fun k => k = w.heap.size) ((Mod.refl (fun k => k = w.heap.size) _).setCell ⟨w.heap.size, x, none⟩ (fun _ => rfl) _) HBL.out.size (fun k hk => by have h2 : k = w.heap.size := hk; omega))
                            case measure => simp [intOf]; omega
                          · have t8 : (y == (bb : Int)) = false := by simp [hy]
                            have HYY := Lib.hid hy
                            clear hy
                            go_wp2_with fail
                            go_roundw
                            case rel =>
                              refine ⟨x + 1, by omega, by go_num, ?_, HB2.out, HBL.out⟩
                              rw [relabTo_step _ _ hxl, if_neg (by rw [HYX.out]; exact HYY.out)]
                              exact HB1.out
                            case measure => simp [intOf]; omega
                        · obtain rfl : n = x := by omega
                          have HE : Hid (relabTo a bb now n = relab a bb now) := by
                            show _ = _
                            have := relabTo_end (a : Int) (bb : Int) now
                            rw [HLN.out] at this
                            exact this
                          go_wp2_with fail
                          go_roundw
                          case rel => exact ⟨k + 1, by omega, by go_num, _, HGOOD.out, by rw [← HE.out]; exact HB1.out, HB2.out, HBL.out⟩
                          case measure => simp [intOf]; omega
                    · have t6 : (Z != (ca : Int) + (cb : Int)) = true := by simp [h6]
                      have H6 := Lib.hid h6
                      clear h6
                      go_quiet (fail)
                      go_wp2_with fail
                      go_ret2
                      exact ⟨fun _ => rfl, (fun now' h => by rw [HBAD.out (.inr (.inr (.inr (.inr (.inr (by rw [HCA.out, HCB.out]; exact H6.out))))))] at h; cases h), bel_drewN HX5.out.2.2.1 _⟩
        · obtain rfl : len = k := by omega
          go_wp2_with fail
          go_ret2
          exact ⟨(fun h => by rw [HNOW.out] at h; cases h), (fun now' h => by rw [HNOW.out] at h; injection h with h; subst h; exact ⟨w.heap.size, rfl, HB1.out, Nat.le_refl _⟩), HBL.out⟩

/-- What Labels returns: the error and the labels. -/
def labL (n : Int) (ms : List Mg) (count : Int) : Int × List Int :=
  if n < 0 ∨ 128 < n then (2, []) else match mrunTo n.toNat ms ms.length with
  | none => (2, [])
  | some _ => if count < 0 ∨ (ms.length : Int) < count then (3, []) else (0, (mrunTo n.toNat ms count.toNat).getD [])

structure LbPost (r : Int × List Int) (w : World) (e : Ending) (w' : World) : Prop where
  out : ∃ ao len cap b, e = .returned (.tuple #[.slice ao len cap, .int .i64 r.1]) ∧ InRow .i64 w' ao len b 0 r.2 ∧ len ≤ 1000000000
  bel : Below w.heap.size w w'

theorem LbPost.bad {r : Int × List Int} {k : Int} (h : r = (k, [])) {w w' : World} (hb : Below w.heap.size w w') : LbPost r w (.returned (.tuple #[.slice none 0 0, .int .i64 k])) w' := by
  subst h
  exact ⟨⟨none, 0, 0, 0, rfl, ⟨rfl, by omega, by omega⟩, by omega⟩, hb⟩

theorem MRow.take {w : World} {ao : Option Addr} {len b off : Nat} {ms : List Mg} (h : MRow w ao len b off ms) {c : Nat} (hc : c ≤ len) : MRow w ao c b off (ms.take c) := by
  refine ⟨by simp [h.size]; omega, fun h0 => h.adr (by omega), fun i hi => ?_⟩
  have e : (ms.take c).getD i mg0 = ms.getD i mg0 := by
    rw [List.getD_eq_getElem?_getD, List.getD_eq_getElem?_getD, List.getElem?_take, if_pos hi]
  rw [e]
  exact h.cell i (by omega)

theorem mrunTo_some {n : Nat} {ms : List Mg} {k j : Nat} {now : List Int} (h : mrunTo n ms (k + j) = some now) : ∃ now', mrunTo n ms k = some now' := by
  cases hk : mrunTo n ms k with
  | none => rw [mrunTo_none hk j] at h; cases h
  | some x => exact ⟨x, rfl⟩

set_option maxHeartbeats 4000000 in
theorem labels_ok (w : World) (n : Int) (ao : Option Addr) (len cap b off : Nat) (ms : List Mg) (hr : MRow w ao len b off ms) (hl : len ≤ 1000000000) (hcap : len ≤ cap ∧ cap ≤ 9223372036854775807) (hao : ao = none → cap = 0) (hS : ∀ x ∈ ms, I64 x.A ∧ I64 x.B ∧ I64 x.S) (count : Int) (hn64 : I64 n) (hc64 : I64 count) :
    Calls Try.prog 19 #[.int .i64 n, .slice ao len cap, .int .i64 count] w (LbPost (labL n ms count) w) := by
  have HL : Hid (ms.length = len) := hr.size
  by_cases h1 : n < 0
  · have t1 : decide (n < 0) = true := by simp [h1]
    have HE : Hid (labL n ms count = (2, [])) := by show _ = _; unfold labL; rw [if_pos (.inl h1)]
    clear h1 hr hS
    go_enter Try.func19, Try.ntmps19
    go_wp2_with fail
    go_ret2
    exact LbPost.bad HE.out (Below.refl _ _)
  · have t1 : decide (n < 0) = false := by simp; omega
    by_cases h2 : 128 < n
    · have t2 : decide (128 < n) = true := by simp [h2]
      have HE : Hid (labL n ms count = (2, [])) := by show _ = _; unfold labL; rw [if_pos (.inr h2)]
      clear h1 h2 hr hS
      go_enter Try.func19, Try.ntmps19
      go_wp2_with fail
      go_ret2
      exact LbPost.bad HE.out (Below.refl _ _)
    · obtain ⟨k, rfl⟩ := Int.eq_ofNat_of_zero_le (show 0 ≤ n by omega)
      have t2 : decide (128 < (k : Int)) = false := by simp; omega
      have hk : k ≤ 128 := by omega
      have HR := Lib.hid hr
      have HS := Lib.hid hS
      have HE : Hid (labL k ms count = match mrunTo k ms ms.length with | none => (2, []) | some _ => if count < 0 ∨ (ms.length : Int) < count then (3, []) else (0, (mrunTo k ms count.toNat).getD [])) := by
        show _ = _; unfold labL; rw [if_neg (by omega)]; rfl
      clear h1 h2 hr hS
      go_enter Try.func19, Try.ntmps19
      go_wp2_with fail
      with_reducible refine (merged_ok w k hk ao len cap b off ms HR.out hl HS.out).mono ?_
      rintro e w1 ⟨hno, hyes, hb1⟩
      have HB1 := Lib.hid hb1
      cases hm : mrunTo k ms len with
      | none =>
        have he := hno hm
        subst he
        have HE2 : Hid (labL k ms count = (2, [])) := by show _ = _; rw [HE.out, HL.out, hm]
        clear hno hyes hb1 hm
        go_wp2_with fail
        go_ret2
        exact LbPost.bad HE2.out HB1.out
      | some now =>
        obtain ⟨b1, he, B1, hb1w⟩ := hyes now hm
        subst he
        have HE2 : Hid (labL k ms count = if count < 0 ∨ (len : Int) < count then (3, []) else (0, (mrunTo k ms count.toNat).getD [])) := by show _ = _; rw [HE.out, HL.out, hm]
        have HMM := Lib.hid hm
        clear hno hyes hb1 hm B1
        by_cases h3 : count < 0
        · have t3 : decide (count < 0) = true := by simp [h3]
          have HE3 : Hid (labL k ms count = (3, [])) := by show _ = _; rw [HE2.out, if_pos (.inl h3)]
          clear h3
          go_wp2_with fail
          go_ret2
          exact LbPost.bad HE3.out HB1.out
        · have t3 : decide (count < 0) = false := by simp; omega
          by_cases h4 : (len : Int) < count
          · have t4 : decide ((len : Int) < count) = true := by simp [h4]
            have HE3 : Hid (labL k ms count = (3, [])) := by show _ = _; rw [HE2.out, if_pos (.inr h4)]
            clear h3 h4
            go_wp2_with fail
            go_ret2
            exact LbPost.bad HE3.out HB1.out
          · obtain ⟨c, rfl⟩ := Int.eq_ofNat_of_zero_le (show 0 ≤ count by omega)
            have hcl : c ≤ len := by omega
            have t4 : decide (len < c) = false := by simp; omega
            obtain ⟨now', hnow'⟩ := mrunTo_some (k := c) (j := len - c) (now := now) (by rw [show c + (len - c) = len by omega]; exact HMM.out)
            have HE3 : Hid (labL k ms c = (0, now')) := by show _ = _; rw [HE2.out, if_neg (by omega), Int.toNat_natCast, hnow']; rfl
            have HT : Hid (mrunTo k (ms.take c) c = some now') := (mrunTo_take c (Nat.le_refl _)).trans hnow'
            have HLN := Lib.hid (mrunTo_length hnow')
            clear h3 h4 hnow'
            have u1 : (c : Int) ≤ (cap : Int) := by omega
            cases ao with
            | none =>
              have hc0 := hao rfl
              subst hc0
              obtain rfl : c = 0 := by omega
              obtain rfl : len = 0 := by omega
              go_wp2_with fail
              with_reducible refine (merged_ok w1 k hk none 0 0 b off (ms.take 0) ((HR.out.below HB1.out).take (Nat.le_refl _)) (by omega) (fun x hx => HS.out x (List.mem_of_mem_take hx))).mono ?_
              rintro e w2 ⟨_, hyes, hb2⟩
              obtain ⟨b2, he, B2, hb2w⟩ := hyes now' HT.out
              subst he
              have HB2 := Lib.hid B2
              have HBB := Lib.hid (bel_then HB1.out hb2)
              clear hyes hb2 B2
              go_wp2_with fail
              go_ret2
              refine ⟨⟨some ⟨b2, 0, none⟩, k, k, b2, (congrArg (fun r : Int × List Int => Ending.returned (.tuple #[.slice (some ⟨b2, 0, none⟩) k k, .int .i64 r.1])) HE3.out).symm, ?_, by omega⟩, HBB.out⟩
              have := InRow.of_blk HB2.out
              rw [HLN.out] at this
              rw [HE3.out]
              exact this
            | some ad =>
              go_wp2_with fail
              with_reducible refine (merged_ok w1 k hk (some ad) c cap b off (ms.take c) ((HR.out.below HB1.out).take hcl) (by omega) (fun x hx => HS.out x (List.mem_of_mem_take hx))).mono ?_
              rintro e w2 ⟨_, hyes, hb2⟩
              obtain ⟨b2, he, B2, hb2w⟩ := hyes now' HT.out
              subst he
              have HB2 := Lib.hid B2
              have HBB := Lib.hid (bel_then HB1.out hb2)
              clear hyes hb2 B2
              go_wp2_with fail
              go_ret2
              refine ⟨⟨some ⟨b2, 0, none⟩, k, k, b2, (congrArg (fun r : Int × List Int => Ending.returned (.tuple #[.slice (some ⟨b2, 0, none⟩) k k, .int .i64 r.1])) HE3.out).symm, ?_, by omega⟩, HBB.out⟩
              have := InRow.of_blk HB2.out
              rw [HLN.out] at this
              rw [HE3.out]
              exact this

end Go.Proofs.Ythacjealoomioaa.Lk

/- The statements' points: a valid matrix out of any numbers. -/
namespace Go.Proofs.Ythacjealoomioaa.Lk
set_option linter.unusedVariables false
set_option linter.unusedSimpArgs false
open Go.RowKit

/-- The k-th distance. -/
def pv (z : List Int) (k : Nat) : Int := if z.length = 0 then 0 else z.getD (k % z.length) 0 % 1099511627777

def put2 (n : Nat) (d : List Int) (i j : Nat) (v : Int) : List Int := (d.set (i * n + j) v).set (j * n + i) v

def ptRow (n : Nat) (z : List Int) (d : List Int) (i k : Nat) : Nat → List Int × Nat
  | 0 => (d, k)
  | j + 1 => if i < j then (put2 n (ptRow n z d i k j).1 i j (pv z (ptRow n z d i k j).2), (ptRow n z d i k j).2 + 1) else ptRow n z d i k j

def ptTo (n : Nat) (z : List Int) : Nat → List Int × Nat
  | 0 => (List.replicate (n * n) 0, 0)
  | i + 1 => ptRow n z (ptTo n z i).1 i (ptTo n z i).2 n

def ptsL (n : Nat) (z : List Int) : List Int := (ptTo n z n).1

theorem ptRow_start (n : Nat) (z : List Int) (d : List Int) (i k : Nat) : ∀ j, j ≤ i + 1 → ptRow n z d i k j = (d, k)
  | 0, _ => rfl
  | j + 1, h => by rw [ptRow, if_neg (by omega), ptRow_start n z d i k j (by omega)]

structure PtOk (n : Nat) (d : List Int) : Prop where
  len : d.length = n * n
  sym : ∀ i j, i < n → j < n → at2 n d i j = at2 n d j i
  zero : ∀ i, i < n → at2 n d i i = 0
  lim : ∀ x ∈ d, 0 ≤ x ∧ x ≤ 1099511627776

theorem pv_lim (z : List Int) (k : Nat) : 0 ≤ pv z k ∧ pv z k ≤ 1099511627776 := by
  unfold pv
  split
  · omega
  · omega

theorem at2_put2 {n : Nat} {d : List Int} (hl : d.length = n * n) {i j : Nat} (hi : i < n) (hj : j < n) (v : Int) {p q : Nat} (hp : p < n) (hq : q < n) :
    at2 n (put2 n d i j v) p q = if (p = j ∧ q = i) ∨ (p = i ∧ q = j) then v else at2 n d p q := by
  unfold put2
  rw [at2_set (by simp [hl]) hj hi hp hq, at2_set hl hi hj hp hq]
  by_cases h1 : p = j ∧ q = i
  · rw [if_pos h1, if_pos (.inl h1)]
  · rw [if_neg h1]
    by_cases h2 : p = i ∧ q = j
    · rw [if_pos h2, if_pos (.inr h2)]
    · rw [if_neg h2, if_neg (by omega)]

theorem PtOk.put {n : Nat} {d : List Int} (h : PtOk n d) {i j : Nat} (hi : i < n) (hj : j < n) (hij : i ≠ j) {v : Int} (hv : 0 ≤ v ∧ v ≤ 1099511627776) : PtOk n (put2 n d i j v) := by
  refine ⟨by simp [put2, h.len], fun p q hp hq => ?_, fun p hp => ?_, fun x hx => ?_⟩
  · rw [at2_put2 h.len hi hj v hp hq, at2_put2 h.len hi hj v hq hp, h.sym p q hp hq]
    by_cases hc : (p = j ∧ q = i) ∨ (p = i ∧ q = j)
    · rw [if_pos hc, if_pos (by omega)]
    · rw [if_neg hc, if_neg (by omega)]
  · rw [at2_put2 h.len hi hj v hp hp, if_neg (by omega)]
    exact h.zero p hp
  · unfold put2 at hx
    rcases List.mem_or_eq_of_mem_set hx with hx | rfl
    · rcases List.mem_or_eq_of_mem_set hx with hx | rfl
      · exact h.lim x hx
      · exact hv
    · exact hv

theorem ptRow_ok {n : Nat} {z d : List Int} {i k : Nat} (h : PtOk n d) (hi : i < n) : ∀ j, j ≤ n → PtOk n (ptRow n z d i k j).1
  | 0, _ => h
  | j + 1, hj => by
    rw [ptRow]
    split
    · exact (ptRow_ok h hi j (by omega)).put hi (by omega) (by omega) (pv_lim _ _)
    · exact ptRow_ok h hi j (by omega)

theorem ptTo_ok (n : Nat) (z : List Int) : ∀ i, i ≤ n → PtOk n (ptTo n z i).1
  | 0, _ => by
    refine ⟨by simp [ptTo], fun i j _ _ => ?_, fun i _ => ?_, fun x hx => ?_⟩
    · simp [ptTo, at2, List.getElem?_replicate]; split <;> split <;> rfl
    · simp [ptTo, at2, List.getElem?_replicate]; split <;> rfl
    · simp [ptTo] at hx; omega
  | i + 1, hi => ptRow_ok (ptTo_ok n z i (by omega)) (by omega) n (Nat.le_refl _)

theorem ptRow_le {n : Nat} {z d : List Int} {i k : Nat} : ∀ j, (ptRow n z d i k j).2 ≤ k + j
  | 0 => Nat.le_refl _
  | j + 1 => by
    have := ptRow_le (n := n) (z := z) (d := d) (i := i) (k := k) j
    rw [ptRow]
    split
    · simp only []; omega
    · omega

theorem ptTo_le (n : Nat) (z : List Int) : ∀ i, (ptTo n z i).2 ≤ i * n
  | 0 => by simp [ptTo]
  | i + 1 => by
    have h1 := ptTo_le n z i
    have h2 := ptRow_le (n := n) (z := z) (d := (ptTo n z i).1) (i := i) (k := (ptTo n z i).2) n
    rw [ptTo, Nat.succ_mul]
    omega

theorem symTo_of {n : Nat} {d : List Int} (hs : ∀ i j, i < n → j < n → at2 n d i j = at2 n d j i) (hz : ∀ i, i < n → at2 n d i i = 0) : ∀ k, k ≤ n → symTo n d k = true
  | 0, _ => rfl
  | k + 1, h => symTo_step (symTo_of hs hz k (by omega)) (hz k (by omega)) (fun j hj => hs k j (by omega) (by omega))

theorem pts_check {n : Nat} (hn : n ≤ 128) (z : List Int) : checkL n (ptsL n z) = 0 := by
  have h := ptTo_ok n z n (Nat.le_refl _)
  refine checkL_ok h.len hn (symTo_of h.sym h.zero n (Nat.le_refl _)) (fun i hi => h.lim _ ?_)
  rw [List.getD_eq_getElem?_getD, List.getElem?_eq_getElem hi]; exact List.getElem_mem hi

theorem pts_len (n : Nat) (z : List Int) : (ptsL n z).length = n * n := (ptTo_ok n z n (Nat.le_refl _)).len

theorem ptRow_zero {n : Nat} {z : List Int} (hz : z.length = 0) (L : Nat) (i k : Nat) : ∀ j, (ptRow n z (List.replicate L 0) i k j).1 = List.replicate L 0
  | 0 => rfl
  | j + 1 => by
    rw [ptRow]
    split
    · simp only [put2, ptRow_zero hz L i k j, pv, hz, if_true, List.set_replicate_self]
    · exact ptRow_zero hz L i k j

theorem ptTo_zero {n : Nat} {z : List Int} (hz : z.length = 0) : ∀ i, (ptTo n z i).1 = List.replicate (n * n) 0
  | 0 => rfl
  | i + 1 => by
    rw [ptTo, ptTo_zero hz i]
    exact ptRow_zero hz _ _ _ _

/-- What points returns. -/
structure PtPost (n : Nat) (z : List Int) (w : World) (e : Ending) (w' : World) : Prop where
  val : e = .returned (.slice (some ⟨w.heap.size, 0, none⟩) (n * n) (n * n))
  blk : Blk w' w.heap.size 2 ((ptsL n z).map fun y => .int .i64 y)
  bel : Below w.heap.size w w'

theorem Try.infoI64V : (Try.prog.info? 2).map (fun i => (i.zero, i.size, i.bytes)) = some (some (.int .i64 0), 1, 8) := by kernel_rfl

set_option maxHeartbeats 4000000 in
set_option maxRecDepth 100000 in
theorem points_ok (w : World) (n : Nat) (hn : n ≤ 128) (ao : Option Addr) (len cap b off : Nat) (z : List Int) (hz : InRow .u64 w ao len b off z) (hl : len ≤ 9223372036854775807) (hu : ∀ x ∈ z, 0 ≤ x ∧ x < 18446744073709551616) :
    Calls Try.prog 4 #[.int .i64 n, .slice ao len cap] w (PtPost n z w) := by
  have HZ := Lib.hid hz
  have HU := Lib.hid hu
  have enn : (n : Int) * (n : Int) = ((n * n : Nat) : Int) := by rw [Int.natCast_mul]
  have hnn : n * n ≤ 16384 := Nat.mul_le_mul hn hn
  obtain ⟨nn, HNN⟩ : ∃ nn, Hid (n * n = nn) := ⟨_, rfl⟩
  rw [HNN.out] at enn hnn
  clear hz hu
  go_enter Try.func4, Try.ntmps4
  go_wp2_with (at_make; refine wpList_makeB 2 (.int .i64 0) 8 Try.underlying23 Try.infoI64V rfl _ _ _ _ nn rfl rfl rfl rfl (by omega) (by unfold maxLen; omega) ?_; intro w1 B1 hb1)
  have HB1 : Hid (Blk w1 w.heap.size 2 ((ptTo n z 0).1.map fun y => .int .i64 y)) := by show Blk _ _ _ _; simp only [ptTo, HNN.out, List.map_replicate]; exact B1
  have HBL := Lib.hid hb1
  clear B1 hb1
  go_loopw [6, 7] (fun s6 s7 wr => ∃ i : Nat, i ≤ n ∧ s7 = .int .i64 i ∧ s6 = .int .i64 ((ptTo n z i).2 : Nat) ∧ Blk wr w.heap.size 2 ((ptTo n z i).1.map fun y => .int .i64 y) ∧ Below w.heap.size w wr) (fun _ s _ => n - (intOf s).toNat)
  case atStart => exact ⟨0, Nat.zero_le _, rfl, rfl, HB1.out, HBL.out⟩
  case round =>
    obtain ⟨i, hi, rfl, rfl, hb, hbl⟩ := hrel
    clear HB1 HBL
    have HB := Lib.hid hb
    have HBL := Lib.hid hbl
    clear hb hbl
    by_cases hin : i < n
    · have hk0 := ptTo_le n z i
      have hk1 : i * n + n ≤ nn := by rw [← HNN.out, ← Nat.succ_mul]; exact Nat.mul_le_mul_right n hin
      have HD0 := Lib.hid (ptTo_ok n z i hi)
      have HZE : Hid (z.length = 0 → (ptTo n z i).1 = List.replicate (n * n) 0) := fun h => ptTo_zero h i
      have HNX : Hid (ptTo n z (i + 1) = ptRow n z (ptTo n z i).1 i (ptTo n z i).2 n) := rfl
      generalize hd0 : (ptTo n z i).1 = d0 at *
      generalize hk0e : (ptTo n z i).2 = k0 at *
      clear hd0 hk0e
      generalize i * n = in0 at hk0 hk1
      go_wp2_with fail
      obtain ⟨wq, rfl⟩ : ∃ wq : World, wq = wr := ⟨_, rfl⟩
      go_loopw [6, 8] (fun s6 s8 wr => ∃ j : Nat, i < j ∧ j ≤ n ∧ s8 = .int .i64 j ∧ s6 = .int .i64 ((ptRow n z d0 i k0 j).2 : Nat) ∧ Blk wr w.heap.size 2 ((ptRow n z d0 i k0 j).1.map fun y => .int .i64 y) ∧ Below w.heap.size w wr) (fun _ s _ => n - (intOf s).toNat)
      case atStart => exact ⟨i + 1, by omega, by omega, by go_num, by rw [ptRow_start _ _ _ _ _ _ (Nat.le_refl _)], by rw [ptRow_start _ _ _ _ _ _ (Nat.le_refl _)]; exact HB.out, HBL.out⟩
      case round =>
        obtain ⟨j, hij, hj, rfl, rfl, hb, hbl⟩ := hrel
        clear HB HBL
        have HB := Lib.hid hb
        have HBL := Lib.hid hbl
        clear hb hbl
        by_cases hjn : j < n
        · have hkl := ptRow_le (n := n) (z := z) (d := d0) (i := i) (k := k0) j
          have HDJ := Lib.hid (ptRow_ok (z := z) (k := k0) HD0.out hin j hj)
          have HNJ : Hid (ptRow n z d0 i k0 (j + 1) = (put2 n (ptRow n z d0 i k0 j).1 i j (pv z (ptRow n z d0 i k0 j).2), (ptRow n z d0 i k0 j).2 + 1)) := by show _ = _; rw [ptRow, if_pos hij]
          have HZJ : Hid (z.length = 0 → (ptRow n z d0 i k0 j).1 = List.replicate (n * n) 0) := fun h => by rw [HZE.out h]; exact ptRow_zero h _ _ _ _
          generalize hdj : (ptRow n z d0 i k0 j).1 = dj at *
          generalize hkj : (ptRow n z d0 i k0 j).2 = kj at *
          clear hdj hkj
          have x1 : i * n + j < nn := by rw [← HNN.out]; exact idx_lt hin hjn
          have x2 : j * n + i < nn := by rw [← HNN.out]; exact idx_lt hjn hin
          have xne : i * n + j ≠ j * n + i := fun e => by have := idx_inj hjn hin e; omega
          have hdl : dj.length = nn := by rw [HDJ.out.len]; exact HNN.out
          have c1 := blk_int HB.out (i := i * n + j) (by omega)
          have c2 := blk_int HB.out (i := j * n + i) (by omega)
          have f1 := HB.out.free (i * n + j)
          have f2 := HB.out.free (j * n + i)
          have HPUT : Hid (∀ v, put2 n dj i j v = (dj.set (i * n + j) v).set (j * n + i) v) := fun v => rfl
          have m1 : (i : Int) * (n : Int) = ((i * n : Nat) : Int) := by rw [Int.natCast_mul]
          have m2 : (j : Int) * (n : Int) = ((j * n : Nat) : Int) := by rw [Int.natCast_mul]
          generalize i * n = im at *
          generalize j * n = jm at *
          obtain ⟨p, hp⟩ : ∃ p, im + j = p := ⟨_, rfl⟩
          obtain ⟨q, hq⟩ : ∃ q, jm + i = q := ⟨_, rfl⟩
          have m3 : (im : Int) + (j : Int) = (p : Int) := by omega
          have m4 : (jm : Int) + (i : Int) = (q : Int) := by omega
          rw [hp] at x1 xne c1 f1 HPUT
          rw [hq] at x2 xne c2 f2 HPUT
          have v1 : IntKind.i64.wrap (im : Int) = (im : Int) := IntWalk.i64_in _ (by omega)
          have v2 : IntKind.i64.wrap (jm : Int) = (jm : Int) := IntWalk.i64_in _ (by omega)
          have v3 : IntKind.i64.wrap (p : Int) = (p : Int) := IntWalk.i64_in _ (by omega)
          have v4 : IntKind.i64.wrap (q : Int) = (q : Int) := IntWalk.i64_in _ (by omega)
          have y1 : (p : Int) < (nn : Int) := by omega
          have y2 : (q : Int) < (nn : Int) := by omega
          have xne1 : ¬ (p = q) := xne
          have xne2 : ¬ (q = p) := fun e => xne e.symm
          clear hp hq xne
          by_cases hl0 : len = 0
          · have t1 : decide (0 < len) = false := by simp [hl0]
            have HZZ : Hid (dj = List.replicate (n * n) 0) := HZJ.out (by rw [HZ.out.size]; exact hl0)
            have HPV : Hid (pv z kj = 0) := by show _ = _; unfold pv; rw [if_pos (by rw [HZ.out.size]; exact hl0)]
            have g1 : dj.getD p 0 = 0 := by rw [HZZ.out, List.getD_eq_getElem?_getD, List.getElem?_replicate]; split <;> rfl
            rw [g1] at c1
            generalize dj.getD q 0 = x2v at c2
            clear g1 hl0
            go_wp2_with fail
            go_roundw
            case rel =>
              refine ⟨j + 1, by omega, by omega, by go_num, by rw [HNJ.out]; go_num, ?_, ?_⟩
              · rw [HNJ.out, HPV.out, HPUT.out]
                have e : dj.set p 0 = dj := by rw [HZZ.out, List.set_replicate_self]
                rw [e]
                exact blk_set_int HB.out q 0
              · exact HBL.out.trans (Mod.below (F := fun k => k = w.heap.size) ((Mod.refl (fun k => k = w.heap.size) _).setCell ⟨w.heap.size, q, none⟩ (fun _ => rfl) _) HBL.out.size (fun k hk => by have h2 : k = w.heap.size := hk; omega))
            case measure => simp [intOf]; omega
          · have t1 : decide (0 < len) = true := by simp; omega
            have hml : kj % len < len := Nat.mod_lt _ (by omega)
            obtain rfl := HZ.out.adr (by omega)
            have hbw := HZ.out.lt (by omega)
            have c3 := (HBL.out.cell (p := ⟨b, off + kj % len, none⟩) hbw).trans (HZ.out.cell (kj % len) hml)
            have HPV : Hid (pv z kj = z.getD (kj % len) 0 % 1099511627777) := by show _ = _; unfold pv; rw [if_neg (by rw [HZ.out.size]; exact hl0), HZ.out.size]
            have hzu := HU.out (z.getD (kj % len) 0) (by rw [List.getD_eq_getElem?_getD, List.getElem?_eq_getElem (by rw [HZ.out.size]; exact hml)]; exact List.getElem_mem _)
            generalize z.getD (kj % len) 0 = zv at c3 HPV hzu
            have r1 : (kj : Int) % (len : Int) = ((kj % len : Nat) : Int) := by simp
            have r2 : Int.tmod (kj : Int) (len : Int) = ((kj % len : Nat) : Int) := by rw [Int.tmod_eq_emod_of_nonneg (by omega)]; simp
            have r3 : Int.tmod zv 1099511627777 = zv % 1099511627777 := Int.tmod_eq_emod_of_nonneg hzu.1
            have hvr : 0 ≤ zv % 1099511627777 ∧ zv % 1099511627777 ≤ 1099511627776 := by omega
            have y3 : ((kj % len : Nat) : Int) < (len : Int) := by omega
            generalize kj % len = km at *
            generalize zv % 1099511627777 = vv at *
            generalize dj.getD p 0 = x1v at c1
            generalize dj.getD q 0 = x2v at c2
            clear hl0
            go_wp2_with fail
            go_roundw
            case rel =>
              refine ⟨j + 1, by omega, by omega, by go_num, by rw [HNJ.out]; go_num, ?_, ?_⟩
              · rw [HNJ.out, HPV.out, HPUT.out]
                exact blk_set_int (blk_set_int HB.out p vv) q vv
              · exact HBL.out.trans (Mod.below (F := fun k => k = w.heap.size) (((Mod.refl (fun k => k = w.heap.size) _).setCell ⟨w.heap.size, p, none⟩ (fun _ => rfl) _).setCell ⟨w.heap.size, q, none⟩ (fun _ => rfl) _) HBL.out.size (fun k hk => by have h2 : k = w.heap.size := hk; omega))
            case measure => simp [intOf]; omega
        · obtain rfl : n = j := by omega
          go_wp2_with fail
          go_roundw
          case rel => exact ⟨i + 1, by omega, by go_num, by rw [HNX.out], by rw [HNX.out]; exact HB.out, HBL.out⟩
          case measure => simp [intOf]; omega
    · obtain rfl : n = i := by omega
      go_wp2_with fail
      go_ret
      refine ⟨?_, HB.out, HBL.out⟩
      rw [HNN.out]; rfl

end Go.Proofs.Ythacjealoomioaa.Lk

/- The statements' example of the chapter. -/
namespace Go.Proofs.Ythacjealoomioaa.Lk
set_option linter.unusedVariables false
set_option linter.unusedSimpArgs false
open Go.RowKit

def exD : List Int := [0, 2, 6, 10, 2, 0, 5, 9, 6, 5, 0, 4, 10, 9, 4, 0]
def exM : List Mg := [⟨0, 1, 2, 1, 2⟩, ⟨2, 3, 4, 1, 2⟩, ⟨0, 2, 15, 2, 4⟩]

theorem ex_check : checkL ((4 : Nat) : Int) exD = 0 := by decide +kernel
theorem ex_run : runL 4 3 exD = exM := by decide +kernel
theorem ex_bet : betL 4 exD 3 [1, 0] [2] = (11, 2, 0) := by decide +kernel
theorem ex_lab : labL 4 exM 2 = (0, [0, 0, 2, 2]) := by decide +kernel

theorem ex_i64 : ∀ x ∈ exM, I64 x.A ∧ I64 x.B ∧ I64 x.S := by
  intro x hx
  simp only [exM, List.mem_cons, List.not_mem_nil, or_false] at hx
  unfold I64
  rcases hx with rfl | rfl | rfl <;> simp

theorem run_ex (w : World) (b : Nat) (hz : InRow .i64 w (some ⟨b, 0, none⟩) 16 b 0 exD) :
    Calls Try.prog 6 #[.int .i64 4, .slice (some ⟨b, 0, none⟩) 16 16, .int .i64 3] w (RunPost 4 3 exD w) :=
  run_ok w 4 3 (.inr (.inr rfl)) (some ⟨b, 0, none⟩) 16 16 b 0 exD hz (fun h => by cases h) rfl (by omega) ex_check

theorem bet_ex (w : World) (b b1 b2 : Nat) (hz : InRow .i64 w (some ⟨b, 0, none⟩) 16 b 0 exD) (h1 : InRow .i64 w (some ⟨b1, 0, none⟩) 2 b1 0 [1, 0]) (h2 : InRow .i64 w (some ⟨b2, 0, none⟩) 1 b2 0 [2]) :
    Calls Try.prog 18 #[.int .i64 4, .slice (some ⟨b, 0, none⟩) 16 16, .int .i64 3, .slice (some ⟨b1, 0, none⟩) 2 2, .slice (some ⟨b2, 0, none⟩) 1 1] w (RetB (.tuple #[.agg #[.int .i64 11, .int .i64 2], .int .i64 0]) w) := by
  have := between_ok w 4 3 (some ⟨b, 0, none⟩) 16 16 b 0 exD hz (by omega) (some ⟨b1, 0, none⟩) (some ⟨b2, 0, none⟩) 2 1 2 1 b1 b2 0 0 [1, 0] [2] h1 h2 (by omega) (by omega)
  rw [ex_bet] at this
  exact this

theorem lab_ex (w : World) (ao : Option Addr) (cap b : Nat) (hr : MRow w ao 3 b 0 exM) (hcap : 3 ≤ cap ∧ cap ≤ 9223372036854775807) :
    Calls Try.prog 19 #[.int .i64 4, .slice ao 3 cap, .int .i64 2] w (LbPost (0, [0, 0, 2, 2]) w) := by
  have := labels_ok w 4 ao 3 cap b 0 exM hr (by omega) hcap (fun e => by have := hr.adr (by omega); rw [e] at this; cases this) ex_i64 2 (by unfold I64; omega) (by unfold I64; omega)
  rw [ex_lab] at this
  exact this

theorem MRow.of_blk {w : World} {b : Nat} {T : TypeId} {ms : List Mg} (h : Blk w b T (ms.flatMap Mg.cells)) : MRow w (some ⟨b, 0, none⟩) ms.length b 0 ms := by
  refine ⟨rfl, fun _ => rfl, fun i hi => ?_⟩
  have key : ∀ j u, j < 5 → (ms.getD i mg0).cells[j]? = some u → w.cell? ⟨b, i * 5 + j, none⟩ = some u := fun j u hj hu => h.cell (by rw [cells_at ms i j hi hj]; exact hu)
  rw [Nat.zero_add]
  exact ⟨key 0 _ (by omega) rfl, key 1 _ (by omega) rfl, key 2 _ (by omega) rfl, key 3 _ (by omega) rfl, key 4 _ (by omega) rfl⟩

set_option maxHeartbeats 8000000 in
set_option maxRecDepth 100000 in
theorem works_ok (w : World) : Calls Try.prog 7 #[] w (RetB (.bool true) w) := by
  go_enter Try.func7, Try.ntmps7
  go_wp2_with fail
  generalize hW : World.alloc w _ = W
  have HD : Hid (InRow .i64 W (some ⟨w.heap.size, 0, none⟩) 16 w.heap.size 0 exD) := by
    show InRow _ _ _ _ _ _ _
    rw [← hW]; exact InRow.of_blk (z := exD) (Blk.new w 2 (exD.map fun x => .int .i64 x))
  have HB : Hid (Below w.heap.size w W) := by show Below _ _ _; rw [← hW]; exact (Below.refl _ _).alloc (Nat.le_refl _) _
  clear hW
  with_reducible refine (run_ex W w.heap.size HD.out).mono ?_
  rintro e w1 ⟨v, rfl, ho, hb1, hn⟩
  rw [ex_run] at ho
  obtain ⟨ao, cap, rb, rfl, hr, hcap, hrb⟩ := MRow.of_owns (ms := exM) ho
  have HR := Lib.hid hr
  have hl3 : exM.length = 3 := rfl
  rw [hl3] at hcap HR ⊢
  have HCAP : Hid (cap ≤ 9223372036854775807) := by
    obtain ⟨g, cap', e, _, hc2, _⟩ := owns_form ho (by decide)
    have : cap = cap' := by injection e
    show cap ≤ _
    rw [this]
    unfold maxLen at hc2
    exact hc2
  have HD1 := Lib.hid (HD.out.below hb1)
  have HB1 := Lib.hid (bel_then HB.out (hb1.mono (Nat.le_refl _)))
  clear ho hb1 hn hr hrb hl3 HD HB
  go_wp2_with fail
  generalize hW2 : World.alloc (World.alloc (World.alloc w1 _) _) _ = W2
  have HWANT : Hid (MRow W2 (some ⟨w1.heap.size, 0, none⟩) 3 w1.heap.size 0 exM) := by
    show MRow _ _ _ _ _ _
    rw [← hW2]; exact MRow.of_blk (ms := exM) (((Blk.new w1 39 (exM.flatMap Mg.cells)).alloc _).alloc _)
  have H1 : Hid (InRow .i64 W2 (some ⟨w1.heap.size + 1, 0, none⟩) 2 (w1.heap.size + 1) 0 [1, 0]) := by
    show InRow _ _ _ _ _ _ _
    rw [← hW2]; exact InRow.of_blk (z := [1, 0]) ((Blk.new' _ 3 [.int .i64 1, .int .i64 0] (by simp)).alloc _)
  have H2 : Hid (InRow .i64 W2 (some ⟨w1.heap.size + 1 + 1, 0, none⟩) 1 (w1.heap.size + 1 + 1) 0 [2]) := by
    show InRow _ _ _ _ _ _ _
    rw [← hW2]; exact InRow.of_blk (z := [2]) (Blk.new' _ 3 [.int .i64 2] (by simp))
  have hbw : Below w1.heap.size w1 W2 := by rw [← hW2]; exact (((Below.refl _ _).alloc (Nat.le_refl _) _).alloc (by simp) _).alloc (by simp; omega) _
  have HD2 := Lib.hid (HD1.out.below hbw)
  have HR2 := Lib.hid (HR.out.below hbw)
  have HB2 := Lib.hid (bel_then HB1.out hbw)
  clear hW2 hbw HD1 HR HB1
  with_reducible refine (bet_ex W2 w.heap.size (w1.heap.size + 1) (w1.heap.size + 1 + 1) HD2.out H1.out H2.out).mono ?_
  rintro e w3 ⟨rfl, hb3⟩
  have hb3' := bel_then hb3 ((Below.refl w3.heap.size w3).alloc (Nat.le_refl _) (.cells #[.int .i64 11, .int .i64 2] 37))
  have HR3 := Lib.hid (HR2.out.below hb3')
  have HW3 := Lib.hid (HWANT.out.below hb3')
  have HB3 := Lib.hid (bel_then HB2.out hb3')
  have HX3 := Lib.hid (Blk.new w3 37 [.int .i64 11, .int .i64 2])
  clear hb3 hb3' HR2 HWANT HB2 H1 H2 HD2
  go_wp2_with fail
  generalize hW4 : World.alloc w3 _ = W4 at *
  clear hW4
  with_reducible refine (lab_ex W4 ao cap rb HR3.out ⟨hcap, HCAP.out⟩).mono ?_
  rintro e w5 ⟨⟨lo, ll, lc, lbk, rfl, hlr, _⟩, hb5⟩
  have HR5 := Lib.hid (HR3.out.below hb5)
  have HW5 := Lib.hid (HW3.out.below hb5)
  have HB5 := Lib.hid (bel_then HB3.out hb5)
  have HX5 := Lib.hid (HX3.out.below hb5 HX3.out.lt)
  have hll : ll = 4 := hlr.size.symm
  subst hll
  have HL5 := Lib.hid hlr
  clear hb5 hlr HR3 HW3 HB3 HX3
  go_wp2_with fail
  with_reducible refine (same_ok w5 ao (some ⟨w1.heap.size, 0, none⟩) 3 cap 3 rb w1.heap.size 0 0 exM HR5.out HW5.out (by omega)).mono ?_
  rintro e w6 ⟨rfl, hb6⟩
  have HX6 := Lib.hid (HX5.out.below hb6 HX5.out.lt)
  have HL6 := Lib.hid (HL5.out.below hb6)
  have HB6 := Lib.hid (bel_then HB5.out hb6)
  have x0 := HX6.out.cell (i := 0) rfl
  have x1 := HX6.out.cell (i := 1) rfl
  clear hb6 HX5 HL5 HB5 HR5 HW5
  go_wp2_with fail
  generalize hW7 : World.alloc w6 _ = W7
  have HA7 : Hid (InRow .i64 W7 (some ⟨w6.heap.size, 0, none⟩) 4 w6.heap.size 0 [0, 0, 2, 2]) := by
    show InRow _ _ _ _ _ _ _
    rw [← hW7]; exact InRow.of_blk (z := [0, 0, 2, 2]) (Blk.new w6 3 [.int .i64 0, .int .i64 0, .int .i64 2, .int .i64 2])
  have hb7 : Below w6.heap.size w6 W7 := by rw [← hW7]; exact (Below.refl _ _).alloc (Nat.le_refl _) _
  have HL7 := Lib.hid (HL6.out.below hb7)
  have HB7 := Lib.hid (bel_then HB6.out hb7)
  clear hW7 hb7 x0 x1 HX6 HL6 HB6
  with_reducible refine (alike_ok W7 lo (some ⟨w6.heap.size, 0, none⟩) 4 lc 4 lbk w6.heap.size 0 0 [0, 0, 2, 2] HL7.out HA7.out (by omega)).mono ?_
  rintro e w8 ⟨rfl, hb8⟩
  have HB8 := Lib.hid (bel_then HB7.out hb8)
  clear hb8
  go_wp2_with fail
  go_ret
  exact ⟨rfl, HB8.out⟩

end Go.Proofs.Ythacjealoomioaa.Lk
