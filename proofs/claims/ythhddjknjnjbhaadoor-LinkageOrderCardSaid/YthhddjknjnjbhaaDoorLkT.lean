/- linkage: disjoint, Between. -/
import Derived.Test.YthhddjknjnjbhaaDoorLkD
import Derived.Test.YthhddjknjnjbhaaDoorLkG
import Derived.Test.YthhddjknjnjbhaaDoorLkE
namespace Go.Proofs.YthhddjknjnjbhaaDoor
set_option linter.unusedVariables false
set_option linter.unusedSimpArgs false
open Go.RowKit

/-- What disjoint returns. -/
def disL (n : Nat) (a b : List Int) : Int :=
  if (a ++ b).all (fun x => decide (0 ≤ x ∧ x < (n : Int))) = false then 3 else if a.length = 0 ∨ b.length = 0 then 2 else if (a ++ b).Nodup then 0 else 2

theorem Tryd.zeroBool128 : (Tryd.prog.info? 79).bind (·.zero) = some (.agg (List.replicate 128 (.bool false)).toArray) := by kernel_rfl

def inB (n : Nat) (l : List Int) : Prop := ∀ x ∈ l, 0 ≤ x ∧ x < (n : Int)

theorem disL_rng {n : Nat} {a b : List Int} {x : Int} (hx : x ∈ a ++ b) (h : x < 0 ∨ (n : Int) ≤ x) : disL n a b = 3 := by
  unfold disL
  have : (a ++ b).all (fun x => decide (0 ≤ x ∧ x < (n : Int))) = false := by
    rw [Bool.eq_false_iff]
    intro hh
    have := List.all_eq_true.1 hh x hx
    simp at this
    omega
  rw [if_pos this]

theorem disL_all {n : Nat} {a b : List Int} (ha : inB n a) (hb : inB n b) : (a ++ b).all (fun x => decide (0 ≤ x ∧ x < (n : Int))) = true := by
  rw [List.all_eq_true]
  intro x hx
  rcases List.mem_append.1 hx with h | h
  · simpa using ha x h
  · simpa using hb x h

theorem disL_empty {n : Nat} {a b : List Int} (ha : inB n a) (hb : inB n b) (h : a.length = 0 ∨ b.length = 0) : disL n a b = 2 := by
  unfold disL; rw [disL_all ha hb, if_neg (by simp), if_pos h]

theorem disL_dup {n : Nat} {a b : List Int} (ha : inB n a) (hb : inB n b) (h : ¬ (a ++ b).Nodup) : disL n a b = 2 := by
  unfold disL; rw [disL_all ha hb, if_neg (by simp), if_neg h]; split <;> rfl

theorem disL_ok {n : Nat} {a b : List Int} (ha : inB n a) (hb : inB n b) (h0 : ¬ (a.length = 0 ∨ b.length = 0)) (h : (a ++ b).Nodup) : disL n a b = 0 := by
  unfold disL; rw [disL_all ha hb, if_neg (by simp), if_neg h0, if_pos h]

/-- The marks for the members of a list. -/
def seenL (l : List Int) : List Value := (List.range 128).map fun i : Nat => Value.bool (decide ((i : Int) ∈ l))

theorem seenL_nil : seenL [] = List.replicate 128 (.bool false) := by
  unfold seenL; simp [List.map_const']

theorem seenL_get {l : List Int} {i : Nat} (h : i < 128) : (seenL l)[i]? = some (.bool (decide ((i : Int) ∈ l))) := by
  simp [seenL, List.getElem?_range h]

theorem seenL_set {l : List Int} {i : Nat} (h : i < 128) : (seenL l).set i (.bool true) = seenL (l ++ [(i : Int)]) := by
  apply List.ext_getElem?
  intro j
  by_cases hj : j < 128
  · rw [seenL_get hj]
    by_cases e : j = i
    · subst e
      rw [List.getElem?_set_self (by simp [seenL]; omega)]; simp
    · rw [List.getElem?_set_ne (by omega), seenL_get hj]
      have : ¬ ((j : Int) = (i : Int)) := by omega
      simp [this]
  · rw [List.getElem?_eq_none (by simp [seenL]; omega), List.getElem?_eq_none (by simp [seenL]; omega)]

/-- One of two. -/
def pick2 (i : Nat) (a b : List Int) : List Int := if i = 0 then a else b

/-- What was gone through. -/
def preL (i : Nat) (a b : List Int) : List Int := match i with | 0 => [] | 1 => a | _ => a ++ b

theorem nodup_push {l : List Int} {x : Int} (h : l.Nodup) (hx : x ∉ l) : (l ++ [x]).Nodup := by
  rw [List.nodup_append]
  exact ⟨h, by simp, fun a ha b hb => by simp at hb; subst hb; exact fun e => hx (e ▸ ha)⟩

theorem not_nodup {l r : List Int} {x : Int} (hx : x ∈ l) : ¬ (l ++ x :: r).Nodup := fun h => by
  have := (List.nodup_append.1 h).2.2 x hx x (by simp)
  exact this rfl

theorem getD_split {l : List Int} {i : Nat} (h : i < l.length) : l = l.take i ++ l.getD i 0 :: l.drop (i + 1) := by
  have : l.getD i 0 = l[i] := by rw [List.getD_eq_getElem?_getD, List.getElem?_eq_getElem h]; rfl
  rw [this, ← List.drop_eq_getElem_cons h]; simp

theorem take_push {l : List Int} {i : Nat} (h : i < l.length) : l.take (i + 1) = l.take i ++ [l.getD i 0] := by
  rw [List.take_succ_eq_append_getElem h, List.getD_eq_getElem?_getD, List.getElem?_eq_getElem h]; rfl

theorem getD_mem {l : List Int} {i : Nat} (h : i < l.length) : l.getD i 0 ∈ l := by
  rw [List.getD_eq_getElem?_getD, List.getElem?_eq_getElem h]; exact List.getElem_mem h

set_option maxHeartbeats 8000000 in
set_option maxRecDepth 100000 in
theorem disjoint_ok (w : World) (n : Nat) (hn : n ≤ 128) (ao bo : Option Addr) (la lb ca cb pa pb oa ob : Nat) (a b : List Int) (ha : InRow .i64 w ao la pa oa a) (hb : InRow .i64 w bo lb pb ob b) (hla : la ≤ 1000000000) (hlb : lb ≤ 1000000000) :
    Calls Tryd.prog 26 #[.int .i64 n, .slice ao la ca, .slice bo lb cb] w (RetB (.int .i64 (disL n a b)) w) := by
  have HA := Lib.hid ha
  have HB := Lib.hid hb
  clear ha hb
  go_enter Tryd.func26, Tryd.ntmps26
  go_wp2_with fail
  generalize hW0 : World.alloc w _ = W0
  have HBW : Hid (Blk W0 w.heap.size 31 [.slice ao la ca, .slice bo lb cb]) := by show Blk _ _ _ _; rw [← hW0]; exact Blk.new w _ _
  have HBL : Hid (Below w.heap.size w W0) := by show Below _ _ _; rw [← hW0]; exact (Below.refl _ _).alloc (Nat.le_refl _) _
  have HSZ : Hid (w.heap.size < W0.heap.size) := HBW.out.lt
  clear hW0
  go_loopw [20] (fun s wr => ∃ i : Nat, i ≤ 2 ∧ s = .int .i64 i ∧ (0 < i → inB n a) ∧ (1 < i → inB n b) ∧ wr = W0) (fun s _ => 2 - (intOf s).toNat)
  case atStart => exact ⟨0, by omega, rfl, by omega, by omega, rfl⟩
  case round =>
    obtain ⟨i, hi, rfl, hia, hib, hwr⟩ := hrel
    have HIA := Lib.hid hia
    have HIB := Lib.hid hib
    clear hia hib
    subst hwr
    by_cases hi2 : i < 2
    · obtain ⟨xo, lx, cx, px, ox, xs, hc, hx, hlx, hxs⟩ : ∃ xo lx cx px ox xs, wr.cell? ⟨w.heap.size, i, none⟩ = some (.slice xo lx cx) ∧ InRow .i64 wr xo lx px ox xs ∧ lx ≤ 1000000000 ∧ xs = pick2 i a b := by
        rcases (show i = 0 ∨ i = 1 by omega) with rfl | rfl
        · exact ⟨ao, la, ca, pa, oa, a, HBW.out.cell (i := 0) rfl, HA.out.below HBL.out, hla, rfl⟩
        · exact ⟨bo, lb, cb, pb, ob, b, HBW.out.cell (i := 1) rfl, HB.out.below HBL.out, hlb, rfl⟩
      have HX := Lib.hid hx
      have HXS := Lib.hid hxs
      have t0 : (i : Int) < 2 := by omega
      clear hx hxs
      go_wp2_with fail
      clear hc
      obtain ⟨wq, hwq⟩ : ∃ wq : World, wq = wr := ⟨_, rfl⟩
      go_loopw [26] (fun s wr => ∃ j : Nat, j ≤ lx ∧ s = .int .i64 j ∧ inB n (xs.take j) ∧ wr = wq) (fun s _ => lx - (intOf s).toNat)
      case atStart => exact ⟨0, Nat.zero_le _, rfl, (fun x hx => by simp at hx), hwq.symm⟩
      case round =>
        rename_i wr0
        obtain ⟨j, hj, rfl, hall, hwr⟩ := hrel
        have HALL := Lib.hid hall
        subst hwr
        subst hwq
        clear hall
        by_cases hjl : j < lx
        · obtain rfl := HX.out.adr (by omega)
          have hjx : j < xs.length := by rw [HX.out.size]; exact hjl
          have c1 := HX.out.cell j hjl
          have HMEM : Hid (xs.getD j 0 ∈ a ++ b) := by
            show _ ∈ _
            have := getD_mem hjx
            rw [List.mem_append]
            rw [HXS.out] at this ⊢
            unfold pick2 at *
            split at this
            · rename_i h0; rw [if_pos h0]; exact .inl this
            · rename_i h0; rw [if_neg h0]; exact .inr this
          obtain ⟨x, HXE⟩ : ∃ x, Hid (xs.getD j 0 = x) := ⟨_, rfl⟩
          rw [HXE.out] at c1 HMEM
          have t1 : (j : Int) < (lx : Int) := by omega
          by_cases h1 : x < 0
          · have t2 : decide (x < 0) = true := by simp [h1]
            have H1 := Lib.hid h1
            clear h1
            go_wp2_with fail
            go_ret
            exact ⟨ret_int (disL_rng HMEM.out (.inl H1.out)).symm, HBL.out⟩
          · have t2 : decide (x < 0) = false := by simp; omega
            by_cases h2 : (n : Int) ≤ x
            · have t3 : decide ((n : Int) ≤ x) = true := by simp [h2]
              have H1 := Lib.hid h2
              clear h1 h2
              go_wp2_with fail
              go_ret
              exact ⟨ret_int (disL_rng HMEM.out (.inr H1.out)).symm, HBL.out⟩
            · have t3 : decide ((n : Int) ≤ x) = false := by simp; omega
              have H1 : Hid (0 ≤ x ∧ x < (n : Int)) := ⟨by omega, by omega⟩
              clear h1 h2
              go_wp2_with fail
              go_roundw
              case rel =>
                refine ⟨j + 1, by omega, by go_num, ?_, by first | rfl | trivial⟩
                rw [take_push hjx, HXE.out]
                intro y hy
                rcases List.mem_append.1 hy with hh | hh
                · exact HALL.out y hh
                · simp at hh; rw [hh]; exact H1.out
              case measure => simp [intOf]; omega
        · obtain rfl : lx = j := by omega
          have HDONE : Hid (inB n xs) := by
            show inB _ _
            have := HALL.out
            rwa [List.take_of_length_le (by rw [HX.out.size]; exact Nat.le_refl _)] at this
          go_wp2_with fail
          go_roundw
          case rel =>
            refine ⟨i + 1, by omega, by go_num, fun h0 => ?_, fun h1 => ?_, by first | rfl | trivial⟩
            · rcases (show i = 0 ∨ i = 1 by omega) with e | e
              · have h2 := HDONE.out; rw [HXS.out, e] at h2; exact h2
              · exact HIA.out (by omega)
            · have h2 := HDONE.out
              rw [HXS.out, show i = 1 by omega] at h2
              exact h2
          case measure => simp [intOf]; omega
    · obtain rfl : i = 2 := by omega
      have HNA : Hid (inB n a) := HIA.out (by omega)
      have HNB : Hid (inB n b) := HIB.out (by omega)
      have HAL := HA.out.size
      have HBLN := HB.out.size
      clear HIA HIB
      by_cases hae : la = 0
      · have t1 : ((la : Int) == 0) = true := by simp [hae]
        have HE : Hid (disL n a b = 2) := disL_empty HNA.out HNB.out (.inl (by omega))
        clear hae HAL HBLN
        go_wp2_with fail
        go_ret
        exact ⟨ret_int HE.out.symm, HBL.out⟩
      · have t1 : ((la : Int) == 0) = false := by simp; omega
        by_cases hbe : lb = 0
        · have t2 : ((lb : Int) == 0) = true := by simp [hbe]
          have HE : Hid (disL n a b = 2) := disL_empty HNA.out HNB.out (.inr (by omega))
          clear hae hbe HAL HBLN
          go_wp2_with fail
          go_ret
          exact ⟨ret_int HE.out.symm, HBL.out⟩
        · have t2 : ((lb : Int) == 0) = false := by simp; omega
          have HNE : Hid (¬ (a.length = 0 ∨ b.length = 0)) := by show ¬ _; omega
          clear hae hbe HAL HBLN
          go_wp2_with (with_reducible refine wpList_allocB _ Tryd.zeroBool128 ?_; intro w3 B3 hb3)
          generalize hW4 : World.alloc w3 _ = W4
          have HB4 : Hid (Blk W4 w3.heap.size 31 [.slice ao la ca, .slice bo lb cb]) := by show Blk _ _ _ _; rw [← hW4]; exact Blk.new w3 _ _
          have HS4 : Hid (Blk W4 wr.heap.size 79 (seenL [])) := by
            show Blk _ _ _ _
            rw [← hW4, seenL_nil]; exact B3.alloc _
          have HBL4 : Hid (Below w.heap.size w W4) := by
            show Below _ _ _
            rw [← hW4]
            have h1 := HBL.out.size
            have h2 := hb3.size
            exact (HBL.out.trans (hb3.mono h1)).alloc (by omega) _
          have hne : ¬ (w3.heap.size = wr.heap.size) := by have := B3.lt; omega
          have hne2 : w.heap.size < wr.heap.size := HSZ.out
          generalize w3.heap.size = L3 at *
          generalize wr.heap.size = sb at *
          clear hW4 B3 hb3 HBW HBL
          obtain ⟨wq, rfl⟩ : ∃ wq : World, wq = wr := ⟨_, rfl⟩
          go_loopw [51] (fun s wr => ∃ i : Nat, i ≤ 2 ∧ s = .int .i64 i ∧ (preL i a b).Nodup ∧ Blk wr sb 79 (seenL (preL i a b)) ∧ Mod (fun x => x = sb) W4 wr) (fun s _ => 2 - (intOf s).toNat)
          case atStart => exact ⟨0, by omega, rfl, List.nodup_nil, HS4.out, Mod.refl _ _⟩
          case round =>
            obtain ⟨i, hi, rfl, hnd, hsb, hm⟩ := hrel
            have HND := Lib.hid hnd
            have HSBK := Lib.hid hsb
            have HM := Lib.hid hm
            clear hnd hsb hm
            by_cases hi2 : i < 2
            · obtain ⟨xo, lx, cx, px, ox, xs, hc, hx, hlx, hxs, hbp⟩ : ∃ xo lx cx px ox xs, wr.cell? ⟨L3, i, none⟩ = some (.slice xo lx cx) ∧ InRow .i64 w xo lx px ox xs ∧ lx ≤ 1000000000 ∧ xs = pick2 i a b ∧ inB n xs := by
                have h4 := HB4.out.mod HM.out (by show ¬ (L3 = sb); exact hne)
                rcases (show i = 0 ∨ i = 1 by omega) with rfl | rfl
                · exact ⟨ao, la, ca, pa, oa, a, h4.cell (i := 0) rfl, HA.out, hla, rfl, HNA.out⟩
                · exact ⟨bo, lb, cb, pb, ob, b, h4.cell (i := 1) rfl, HB.out, hlb, rfl, HNB.out⟩
              have HX := Lib.hid hx
              have HXS := Lib.hid hxs
              have HBP := Lib.hid hbp
              have t0 : (i : Int) < 2 := by omega
              have HPRE : Hid (∃ suf, preL i a b ++ (xs ++ suf) = a ++ b) := by
                rcases (show i = 0 ∨ i = 1 by omega) with e | e
                · subst e; exact ⟨b, by rw [hxs]; rfl⟩
                · subst e; exact ⟨[], by rw [hxs]; simp [preL, pick2]⟩
              have HNXT : Hid (preL i a b ++ xs = preL (i + 1) a b) := by
                show _ = _
                rcases (show i = 0 ∨ i = 1 by omega) with e | e
                · subst e; rw [hxs]; rfl
                · subst e; rw [hxs]; rfl
              clear hx hxs hbp
              go_wp2_with fail
              clear hc
              generalize preL i a b = pre at HND HSBK HPRE HNXT
              obtain ⟨wq2, rfl⟩ : ∃ wq : World, wq = wr := ⟨_, rfl⟩
              go_loopw [57] (fun s wr => ∃ j : Nat, j ≤ lx ∧ s = .int .i64 j ∧ (pre ++ xs.take j).Nodup ∧ Blk wr sb 79 (seenL (pre ++ xs.take j)) ∧ Mod (fun x => x = sb) W4 wr) (fun s _ => lx - (intOf s).toNat)
              case atStart => exact ⟨0, Nat.zero_le _, rfl, by simpa using HND.out, by simpa using HSBK.out, HM.out⟩
              case round =>
                obtain ⟨j, hj, rfl, hnd, hsb, hm⟩ := hrel
                clear HND HSBK HM
                have HND := Lib.hid hnd
                have HSBK := Lib.hid hsb
                have HM := Lib.hid hm
                clear hnd hsb hm
                by_cases hjl : j < lx
                · obtain rfl := HX.out.adr (by omega)
                  have hjx : j < xs.length := by rw [HX.out.size]; exact hjl
                  have hpw := HX.out.lt (by omega)
                  have c1 := (((HX.out.below HBL4.out).mod HM.out (fun _ e => by have e' : px = sb := e; omega))).cell j hjl
                  have hx := HBP.out _ (getD_mem hjx)
                  obtain ⟨x, HXE⟩ : ∃ x, Hid (xs.getD j 0 = x) := ⟨_, rfl⟩
                  rw [HXE.out] at c1 hx
                  obtain ⟨y, rfl⟩ := Int.eq_ofNat_of_zero_le hx.1
                  have hy : y < 128 := by omega
                  have t1 : (j : Int) < (lx : Int) := by omega
                  have t2 : (y : Int) < 128 := by omega
                  have c2 := HSBK.out.cell (seenL_get hy)
                  have f2 := HSBK.out.free y
                  by_cases hin : (y : Int) ∈ pre ++ xs.take j
                  · rw [decide_eq_true hin] at c2
                    have HE : Hid (disL n a b = 2) := by
                      refine disL_dup HNA.out HNB.out ?_
                      obtain ⟨suf, hs⟩ := HPRE.out
                      rw [← hs, getD_split hjx, HXE.out]
                      have := not_nodup (r := xs.drop (j + 1) ++ suf) hin
                      simpa using this
                    clear hin
                    go_wp2_with fail
                    go_ret
                    exact ⟨ret_int HE.out.symm, HBL4.out.trans (HM.out.below HBL4.out.size (fun k hk => by have e : k = sb := hk; omega))⟩
                  · rw [decide_eq_false hin] at c2
                    have HIN := Lib.hid hin
                    clear hin
                    go_wp2_with fail
                    go_roundw
                    case rel =>
                      refine ⟨j + 1, by omega, by go_num, ?_, ?_, HM.out.setCell ⟨sb, y, none⟩ (fun _ => rfl) _⟩
                      · rw [take_push hjx, HXE.out, ← List.append_assoc]
                        exact nodup_push HND.out HIN.out
                      · rw [take_push hjx, HXE.out, ← List.append_assoc, ← seenL_set hy]
                        exact HSBK.out.set _ _
                    case measure => simp [intOf]; omega
                · obtain rfl : lx = j := by omega
                  have HT : Hid (xs.take lx = xs) := List.take_of_length_le (by rw [HX.out.size]; exact Nat.le_refl _)
                  go_wp2_with fail
                  go_roundw
                  case rel =>
                    refine ⟨i + 1, by omega, by go_num, ?_, ?_, HM.out⟩
                    · have := HND.out; rw [HT.out, HNXT.out] at this; exact this
                    · have := HSBK.out; rw [HT.out, HNXT.out] at this; exact this
                  case measure => simp [intOf]; omega
            · obtain rfl : i = 2 := by omega
              have HE : Hid (disL n a b = 0) := disL_ok HNA.out HNB.out HNE.out HND.out
              go_wp2_with fail
              go_ret
              exact ⟨ret_int HE.out.symm, HBL4.out.trans (HM.out.below HBL4.out.size (fun k hk => by have e : k = sb := hk; omega))⟩

end Go.Proofs.YthhddjknjnjbhaaDoor
