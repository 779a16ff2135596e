/- Several texts in one: LkMt, LkMn, BagL, LkMw. -/
import Derived.Test.YthacjealoomioaaDoorZFwP
import Derived.Test.YthacjealoomioaaDoorZMgT
import Derived.Test.YthacjealoomioaaDoorZMmN
import Derived.Test.YthacjealoomioaaDoorZLkFo
import Derived.Test.YthacjealoomioaaDoorZBagS
import Derived.Test.YthacjealoomioaaDoorZMgA
import Derived.Test.YthacjealoomioaaDoorZRcU
import Derived.Test.YthacjealoomioaaDoorZMgO
import Derived.Deep.RegionHeld3
import Derived.BigQuiet
/- linkage.Matrix of the program. -/
namespace Go.Proofs.YthacjealoomioaaDoor.Lk
set_option linter.unusedVariables false
set_option linter.unusedSimpArgs false
open Go.RowKit

def badE (e : Ed) : Prop := e.W < 0 ∨ 1099511627776 < e.W
instance (e : Ed) : Decidable (badE e) := by unfold badE; infer_instance
def badB (l : List Ed) : Bool := l.any fun e => decide (badE e)
def noneB (n : Nat) (l : List Ed) : Bool := (List.range n).any fun u => (List.range n).any fun v => !decide (u = v) && (mmV n l u v).isNone
/-- The error that Matrix returns. -/
def matC (n : Int) (l : List Ed) : Int := if 128 < n then 2 else if newErr n l ≠ 0 then newErr n l else if badB l = true then 3 else if noneB n.toNat l = true then 5 else 0

theorem badB_hit {l : List Ed} {i : Nat} (hi : i < l.length) (h : badE (EA l i)) : badB l = true := by
  unfold badB
  rw [List.any_eq_true]
  exact ⟨_, EA_mem hi, decide_eq_true h⟩
theorem badB_no {l : List Ed} (h : ∀ i, i < l.length → ¬ badE (EA l i)) : badB l = false := by
  unfold badB
  rw [List.any_eq_false]
  intro e he
  obtain ⟨i, hi⟩ := List.getElem?_of_mem he
  have hlt := (List.getElem?_eq_some_iff.1 hi).1
  have : EA l i = e := by unfold EA; rw [List.getD_eq_getElem?_getD, hi]; rfl
  rw [← this, decide_eq_false (h i hlt)]
  simp
theorem noneB_hit {n : Nat} {l : List Ed} {u v : Nat} (hu : u < n) (hv : v < n) (hne : u ≠ v) (h : mmV n l u v = none) : noneB n l = true := by
  unfold noneB
  rw [List.any_eq_true]
  refine ⟨u, List.mem_range.2 hu, ?_⟩
  rw [List.any_eq_true]
  refine ⟨v, List.mem_range.2 hv, ?_⟩
  rw [h, decide_eq_false hne]
  rfl
theorem noneB_no {n : Nat} {l : List Ed} (h : ∀ u v, u < n → v < n → u ≠ v → mmV n l u v ≠ none) : noneB n l = false := by
  unfold noneB
  rw [List.any_eq_false]
  intro u hu
  rw [List.mem_range] at hu
  rw [Bool.not_eq_true, List.any_eq_false]
  intro v hv
  rw [List.mem_range] at hv
  by_cases e : u = v
  · rw [decide_eq_true e]; simp
  · have := h u v hu hv e
    cases hm : mmV n l u v with
    | none => exact absurd hm this
    | some d => simp
theorem matC_big {n : Int} {l : List Ed} (h : 128 < n) : matC n l = 2 := if_pos h
theorem matC_err {n : Int} {l : List Ed} (h : n ≤ 128) (h0 : newErr n l ≠ 0) : matC n l = newErr n l := by unfold matC; rw [if_neg (by omega), if_pos h0]
theorem matC_bad {n : Nat} {l : List Ed} (h : (n : Int) ≤ 128) (h0 : newErr n l = 0) (hb : badB l = true) : matC n l = 3 := by unfold matC; rw [if_neg (by omega), if_neg (fun q => q h0), if_pos hb]
theorem matC_none {n : Nat} {l : List Ed} (h : (n : Int) ≤ 128) (h0 : newErr n l = 0) (hb : badB l = false) (hn : noneB n l = true) : matC n l = 5 := by unfold matC; rw [if_neg (by omega), if_neg (fun q => q h0), hb, if_neg (by decide), Int.toNat_natCast, if_pos hn]
theorem matC_ok {n : Nat} {l : List Ed} (h : (n : Int) ≤ 128) (h0 : newErr n l = 0) (hb : badB l = false) (hn : noneB n l = false) : matC n l = 0 := by unfold matC; rw [if_neg (by omega), if_neg (fun q => q h0), hb, if_neg (by decide), Int.toNat_natCast, hn]; rfl

def DoneP (u v p q : Nat) : Prop := p ≠ q ∧ (max p q < u ∨ (max p q = u ∧ min p q < v))
instance (u v p q : Nat) : Decidable (DoneP u v p q) := by unfold DoneP; infer_instance
def mmE (n : Nat) (l : List Ed) (p q : Nat) : Int := (mmV n l p q).getD 0
theorem mmE_symm (n : Nat) (l : List Ed) (p q : Nat) : mmE n l p q = mmE n l q p := by unfold mmE; rw [mmV_symm]

/-- The matrix before the pair u, v. -/
structure MtI (n : Nat) (l : List Ed) (u v : Nat) (d : List Int) : Prop where
  len : d.length = n * n
  at_ : ∀ p q, p < n → q < n → at2 n d p q = if DoneP u v p q then mmE n l p q else 0
  sm : ∀ p q, p < n → q < n → DoneP u v p q → mmV n l p q ≠ none

theorem MtI.start (n : Nat) (l : List Ed) : MtI n l 0 0 (List.replicate (n * n) 0) := by
  refine ⟨List.length_replicate, fun p q hp hq => ?_, fun p q hp hq h => ?_⟩
  · rw [if_neg (by unfold DoneP; omega)]
    unfold at2
    rw [List.getD_eq_getElem?_getD, List.getElem?_replicate, if_pos (idx_lt hp hq)]; rfl
  · unfold DoneP at h; omega
theorem MtI.put {n : Nat} {l : List Ed} {u v : Nat} {d : List Int} (h : MtI n l u v d) (hu : u < n) (hv : v < u) {th : Int} (hm : mmV n l u v = some th) : MtI n l u (v + 1) (put2 n d u v th) := by
  have e1 : mmE n l u v = th := by unfold mmE; rw [hm]; rfl
  have e2 : mmE n l v u = th := by rw [mmE_symm]; exact e1
  refine ⟨by unfold put2; rw [List.length_set, List.length_set]; exact h.len, fun p q hp hq => ?_, fun p q hp hq hd => ?_⟩
  · rw [at2_put2 h.len hu (by omega) th hp hq]
    by_cases c : (p = u ∧ q = v) ∨ (p = v ∧ q = u)
    · rw [if_pos (by omega), if_pos (by unfold DoneP; omega)]
      rcases c with ⟨rfl, rfl⟩ | ⟨rfl, rfl⟩
      · exact e1.symm
      · exact e2.symm
    · rw [if_neg (by omega), h.at_ p q hp hq]
      by_cases c2 : DoneP u v p q
      · rw [if_pos c2, if_pos (by unfold DoneP at *; omega)]
      · rw [if_neg c2, if_neg (by unfold DoneP at *; omega)]
  · by_cases c2 : DoneP u v p q
    · exact h.sm p q hp hq c2
    · have c : (p = u ∧ q = v) ∨ (p = v ∧ q = u) := by unfold DoneP at *; omega
      rcases c with ⟨rfl, rfl⟩ | ⟨rfl, rfl⟩
      · rw [hm]; simp
      · rw [mmV_symm, hm]; simp
theorem MtI.row {n : Nat} {l : List Ed} {u : Nat} {d : List Int} (h : MtI n l u u d) : MtI n l (u + 1) 0 d := by
  have e : ∀ p q, DoneP u u p q ↔ DoneP (u + 1) 0 p q := fun p q => by unfold DoneP; omega
  refine ⟨h.len, fun p q hp hq => ?_, fun p q hp hq hd => h.sm p q hp hq ((e p q).2 hd)⟩
  rw [h.at_ p q hp hq]
  by_cases c : DoneP u u p q
  · rw [if_pos c, if_pos ((e p q).1 c)]
  · rw [if_neg c, if_neg (fun k => c ((e p q).2 k))]
theorem at2_ext {n : Nat} {d d' : List Int} (h : d.length = n * n) (h' : d'.length = n * n) (he : ∀ p q, p < n → q < n → at2 n d p q = at2 n d' p q) : d = d' := by
  rcases Nat.eq_zero_or_pos n with rfl | hn
  · rw [List.eq_nil_of_length_eq_zero h, List.eq_nil_of_length_eq_zero h']
  apply List.ext_getElem (h.trans h'.symm)
  intro x h1 h2
  have hx : x < n * n := by omega
  have hp : x / n < n := (Nat.div_lt_iff_lt_mul hn).2 hx
  have hq : x % n < n := Nat.mod_lt _ hn
  have := he (x / n) (x % n) hp hq
  unfold at2 at this
  rw [Nat.mul_comm, Nat.div_add_mod] at this
  rw [List.getD_eq_getElem?_getD, List.getD_eq_getElem?_getD, List.getElem?_eq_getElem h1, List.getElem?_eq_getElem h2] at this
  exact this
theorem MtI.fin {n : Nat} {l : List Ed} {d : List Int} (hg : GOk n l) (hb : badB l = false) (h : MtI n l n 0 d) : d = fwK n l n ∧ noneB n l = false := by
  have hd : ∀ p q, p < n → q < n → p ≠ q → DoneP n 0 p q := fun p q hp hq hne => by unfold DoneP; omega
  have hw : ∀ i, i < l.length → 0 ≤ wI l i := fun i hi => by
    apply Classical.byContradiction
    intro hc
    have := badB_hit hi (show badE (EA l i) from .inl (by unfold wI at hc; omega))
    rw [hb] at this; cases this
  refine ⟨at2_ext h.len (fwK_len n l n) (fun p q hp hq => ?_), noneB_no (fun u v hu hv hne => h.sm u v hu hv (hd u v hu hv hne))⟩
  rw [h.at_ p q hp hq]
  by_cases e : p = q
  · subst e
    rw [if_neg (by unfold DoneP; omega), fw_diag hp]
  · rw [if_pos (hd p q hp hq e)]
    have hs := h.sm p q hp hq (hd p q hp hq e)
    cases hm : mmV n l p q with
    | none => exact absurd hm hs
    | some x =>
      rw [((fw_val hg hw hp hq e).1 x hm).1]
      unfold mmE
      rw [hm]; rfl

structure MtPost (w : World) (n : Int) (l : List Ed) (e : Ending) (w' : World) : Prop where
  bad : matC n l ≠ 0 → e = .returned (.tuple #[.slice none 0 0, .int .i64 (matC n l)])
  ok : matC n l = 0 → ∃ ao cap b, e = .returned (.tuple #[.slice ao (n.toNat * n.toNat) cap, .int .i64 0]) ∧ InRow .i64 w' ao (n.toNat * n.toNat) b 0 (fwK n.toNat l n.toNat)
  bel : Below w.heap.size w w'
theorem MtPost.no {w w' : World} {n : Int} {l : List Ed} {k : Int} (h : matC n l = k) (hk : k ≠ 0) (hb : Below w.heap.size w w') : MtPost w n l (.returned (.tuple #[.slice none 0 0, .int .i64 k])) w' :=
  ⟨fun _ => by rw [h], fun h0 => absurd (h.symm.trans h0) hk, hb⟩

set_option maxHeartbeats 16000000 in
set_option maxRecDepth 100000 in
theorem matrix_ok (w : World) (hT : Tab64 w) (n : Int) (ao : Option Addr) (m cap b off : Nat) (l : List Ed) (he : ERow w ao m b off l) (hm : m ≤ 9223372036854775807) (hnil : ao = none → cap = 0) (hn64 : -9223372036854775808 ≤ n ∧ n ≤ 9223372036854775807) :
    Calls Tryd.prog 6 #[.int .i64 n, .slice ao m cap] w (MtPost w n l) := by
  have HE := Lib.hid he
  have HNIL := Lib.hid hnil
  have H64 := Lib.hid hn64
  have HT := Lib.hid hT
  have HS := Lib.hid he.size
  clear he hnil hn64 hT
  by_cases hbig : 128 < n
  · have t1 : decide (128 < n) = true := decide_eq_true hbig
    have HC : Hid (matC n l = 2) := matC_big hbig
    clear hbig
    go_enter Tryd.func6, Tryd.ntmps6
    go_wp2_with fail
    go_ret2
    exact MtPost.no HC.out (by decide) (Below.refl _ _)
  have t1 : decide (128 < n) = false := decide_eq_false hbig
  have HBIG : Hid (n ≤ 128) := by show _ ≤ _; omega
  clear hbig
  go_enter Tryd.func6, Tryd.ntmps6
  go_wp2_with fail
  with_reducible refine (mnew_ok w n ao m cap b off l HE.out hm HNIL.out H64.out).mono ?_
  rintro e w1 ⟨hbad, hok, hb⟩
  have HB1 := Lib.hid hb
  have HT1 := Lib.hid (HT.out.below hb)
  have HE1 := Lib.hid (HE.out.below hb)
  clear hb HT HE t1
  by_cases h0 : newErr n l = 0
  · obtain ⟨M, rfl, hM⟩ := hok h0
    obtain ⟨k, rfl, hg⟩ := GOk.of_err h0
    rw [Int.toNat_natCast] at hM
    have HM1 := Lib.hid hM
    have HG := Lib.hid hg
    have H0 := Lib.hid h0
    have hk : k ≤ 128 := by have := HBIG.out; omega
    clear hbad hok hM hg h0
    go_wp2_with fail
    go_loopw [28] (fun s wr => ∃ i : Nat, i ≤ m ∧ s = .int .i64 i ∧ (∀ j, j < i → ¬ badE (EA l j)) ∧ Below w1.heap.size w1 wr) (fun s _ => m - (intOf s).toNat)
    case atStart => exact ⟨0, Nat.zero_le _, rfl, fun j hj => by omega, Below.refl _ _⟩
    case round =>
      obtain ⟨i, hi, rfl, hno, hbl⟩ := hrel
      have HNO := Lib.hid hno
      have HBL := Lib.hid hbl
      clear hno hbl
      by_cases him : i < m
      · obtain ⟨d0, d1, d2⟩ := (HE1.out.below HBL.out).cell i him
        obtain rfl := HE1.out.adr (by omega)
        have HHIT : Hid (badE (EA l i) → badB l = true) := fun h => badB_hit (by rw [HS.out]; exact him) h
        have HSUC : Hid (¬ badE (EA l i) → ∀ j, j < i + 1 → ¬ badE (EA l j)) := fun h j hj => by
          by_cases e : j < i
          · exact HNO.out j e
          · obtain rfl : j = i := by omega
            exact h
        have HBE : Hid (badE (EA l i) ↔ (EA l i).W < 0 ∨ 1099511627776 < (EA l i).W) := Iff.rfl
        generalize EA l i = E at *
        obtain ⟨eu, ev, ew⟩ := E
        simp only at d0 d1 d2 HBE
        have t2 : (i : Int) < (m : Int) := by omega
        have t3 : (0 : Int) ≤ (i : Int) := by omega
        have HAL : Hid (Below wr.heap.size wr (wr.alloc (.cells #[.int .i64 eu, .int .i64 ev, .int .i64 ew] 35))) := (Below.refl _ _).alloc (Nat.le_refl _) _
        have HBX := Lib.hid (Blk.new wr 35 [.int .i64 eu, .int .i64 ev, .int .i64 ew])
        have q2 := HBX.out.cell (i := 2) rfl
        by_cases hlo : ew < 0
        · have t4 : decide (ew < 0) = true := decide_eq_true hlo
          have HC : Hid (matC k l = 3) := matC_bad HBIG.out H0.out (HHIT.out (HBE.out.2 (.inl hlo)))
          clear hlo
          go_wp2_with fail
          go_ret2
          exact MtPost.no HC.out (by decide) (bel_then HB1.out (HBL.out.trans (HAL.out.mono HBL.out.size)))
        · have t4 : decide (ew < 0) = false := decide_eq_false hlo
          by_cases hhi : 1099511627776 < ew
          · have t5 : decide (1099511627776 < ew) = true := decide_eq_true hhi
            have HC : Hid (matC k l = 3) := matC_bad HBIG.out H0.out (HHIT.out (HBE.out.2 (.inr hhi)))
            clear hlo hhi
            go_wp2_with fail
            go_ret2
            exact MtPost.no HC.out (by decide) (bel_then HB1.out (HBL.out.trans (HAL.out.mono HBL.out.size)))
          · have t5 : decide (1099511627776 < ew) = false := decide_eq_false hhi
            have HN2 := Lib.hid (HSUC.out (fun h => by rcases HBE.out.1 h with h | h; exact hlo h; exact hhi h))
            clear hlo hhi
            go_wp2_with fail
            go_roundw
            case rel => exact ⟨i + 1, by omega, by go_num, HN2.out, HBL.out.trans (HAL.out.mono HBL.out.size)⟩
            case measure => simp [intOf]; omega
      · obtain rfl : i = m := by omega
        have HBB : Hid (badB l = false) := badB_no (fun j hj => HNO.out j (by rw [← HS.out]; exact hj))
        have HM2 := Lib.hid (HM1.out.below HBL.out)
        have HT2 := Lib.hid (HT1.out.below HBL.out)
        have HB2 := Lib.hid (bel_then HB1.out HBL.out)
        clear HNO HBL HM1 HT1 HB1 HE1
        obtain ⟨wz, rfl⟩ : ∃ wz : World, wz = wr := ⟨_, rfl⟩
        obtain ⟨nn, HNN⟩ : ∃ nn, Hid (k * k = nn) := ⟨_, rfl⟩
        have hnn : nn ≤ 16384 := by rw [← HNN.out]; exact Nat.mul_le_mul hk hk
        have enn : (k : Int) * (k : Int) = (nn : Int) := by rw [← Int.natCast_mul, HNN.out]
        have v0 : IntKind.i64.wrap (nn : Int) = (nn : Int) := IntWalk.i64_in _ (by omega)
        go_wp2_with (at_make; refine wpList_makeB 2 (.int .i64 0) 8 Tryd.underlying24 Tryd.infoI64V rfl _ _ _ _ nn rfl rfl rfl rfl (by omega) (by unfold maxLen; omega) ?_; intro w2 B2 hb2)
        have HM3 := Lib.hid (HM2.out.below hb2)
        have HT3 := Lib.hid (HT2.out.below hb2)
        have HB3 := Lib.hid (bel_then HB2.out hb2)
        obtain ⟨db, hdb⟩ : ∃ db, wz.heap.size = db := ⟨_, rfl⟩
        rw [hdb] at B2
        have HDB : Hid (db < w2.heap.size ∧ w.heap.size ≤ db) := ⟨B2.lt, by rw [← hdb]; exact HB2.out.size⟩
        have HMX : Hid (MtI k l 0 0 (List.replicate nn 0)) := by rw [← HNN.out]; exact MtI.start k l
        have HD : Hid (Blk w2 db 2 ((List.replicate nn (0 : Int)).map fun y => .int .i64 y)) := by show Blk _ _ _ _; rw [List.map_replicate]; exact B2
        rw [hdb]
        have HBW : Hid (Below db wz w2) := by rw [← hdb]; exact hb2
        have HWZ := Lib.hid hdb
        clear B2 hb2 hdb v0 HM3 HT3 HB3 HDB
        go_wp2_with fail
        go_loopw [46] (fun s wr => ∃ (u : Nat) (d : List Int), u ≤ k ∧ s = .int .i64 u ∧ MtI k l u 0 d ∧ Blk wr db 2 (d.map fun y => .int .i64 y) ∧ Below db wz wr) (fun s _ => k - (intOf s).toNat)
        case atStart => exact ⟨0, _, Nat.zero_le _, rfl, HMX.out, HD.out, HBW.out⟩
        case round =>
          obtain ⟨u, d0, hu, rfl, hmt, hblk, hbel⟩ := hrel
          have HMT := Lib.hid hmt
          have HBK := Lib.hid hblk
          have HBE := Lib.hid hbel
          clear hmt hblk hbel HMX HD HBW
          by_cases huk : u < k
          · have t2 : (u : Int) < (k : Int) := by omega
            go_wp2_with fail
            go_loopw [50] (fun s wr => ∃ (v : Nat) (d : List Int), v ≤ u ∧ s = .int .i64 v ∧ MtI k l u v d ∧ Blk wr db 2 (d.map fun y => .int .i64 y) ∧ Below db wz wr) (fun s _ => u - (intOf s).toNat)
            case atStart => exact ⟨0, d0, Nat.zero_le _, rfl, HMT.out, HBK.out, HBE.out⟩
            case round =>
              obtain ⟨v, d, hv, rfl, hmt, hblk, hbel⟩ := hrel
              have HMV := Lib.hid hmt
              have HBV := Lib.hid hblk
              have HBF := Lib.hid hbel
              clear hmt hblk hbel HMT HBK HBE
              by_cases hvu : v < u
              · have t3 : (v : Int) < (u : Int) := by omega
                have hwz := HWZ.out
                have hbz : Below wz.heap.size wz wr := by rw [hwz]; exact HBF.out
                have HMW := Lib.hid (HM2.out.below hbz)
                have HTW := Lib.hid (HT2.out.below hbz)
                clear hbz hwz
                go_wp2_with fail
                with_reducible refine (minimax_ok wr M k l HMW.out HG.out HTW.out u v).mono ?_
                rintro e w5 ⟨rfl, hb5⟩
                have HB5 := Lib.hid (HBF.out.trans (hb5.mono (Nat.le_of_lt HBV.out.lt)))
                have HD5 := Lib.hid (HBV.out.below hb5 HBV.out.lt)
                clear hb5 HMW HTW HBV HBF
                cases hmm : mmV k l u v with
                | none =>
                  have HC : Hid (matC k l = 5) := matC_none HBIG.out H0.out HBB.out (noneB_hit huk (show v < k by omega) (by omega) hmm)
                  clear hmm
                  unfold intR
                  simp only [Option.getD_none, Option.isSome_none]
                  go_wp2_with fail
                  go_ret2
                  exact MtPost.no HC.out (by decide) (bel_then HB2.out (by rw [HWZ.out]; exact HB5.out))
                | some th =>
                  have HPT := Lib.hid (HMV.out.put huk hvu hmm)
                  have hdl : d.length = nn := by rw [HMV.out.len]; exact HNN.out
                  clear hmm
                  unfold intR
                  simp only [Option.getD_some, Option.isSome_some]
                  have hvk : v < k := by omega
                  have x1 : u * k + v < nn := by rw [← HNN.out]; exact idx_lt huk hvk
                  have x2 : v * k + u < nn := by rw [← HNN.out]; exact idx_lt hvk huk
                  have xne : u * k + v ≠ v * k + u := fun e => by have := idx_inj hvk huk e; omega
                  have c1 := blk_int HD5.out (i := u * k + v) (by omega)
                  have c2 := blk_int HD5.out (i := v * k + u) (by omega)
                  have f1 := HD5.out.free (u * k + v)
                  have f2 := HD5.out.free (v * k + u)
                  have HPUT : Hid (∀ x, put2 k d u v x = (d.set (u * k + v) x).set (v * k + u) x) := fun x => rfl
                  have m1 : (u : Int) * (k : Int) = ((u * k : Nat) : Int) := by rw [Int.natCast_mul]
                  have m2 : (v : Int) * (k : Int) = ((v * k : Nat) : Int) := by rw [Int.natCast_mul]
                  generalize u * k = im at *
                  generalize v * k = jm at *
                  obtain ⟨p, hp⟩ : ∃ p, im + v = p := ⟨_, rfl⟩
                  obtain ⟨q, hq⟩ : ∃ q, jm + u = q := ⟨_, rfl⟩
                  have m3 : (im : Int) + (v : Int) = (p : Int) := by omega
                  have m4 : (jm : Int) + (u : Int) = (q : Int) := by omega
                  rw [hp] at x1 xne c1 f1 HPUT
                  rw [hq] at x2 xne c2 f2 HPUT
                  have v1 : IntKind.i64.wrap (im : Int) = (im : Int) := IntWalk.i64_in _ (by omega)
                  have v2 : IntKind.i64.wrap (jm : Int) = (jm : Int) := IntWalk.i64_in _ (by omega)
                  have v3 : IntKind.i64.wrap (p : Int) = (p : Int) := IntWalk.i64_in _ (by omega)
                  have v4 : IntKind.i64.wrap (q : Int) = (q : Int) := IntWalk.i64_in _ (by omega)
                  have y1 : (p : Int) < (nn : Int) := by omega
                  have y2 : (q : Int) < (nn : Int) := by omega
                  have xne1 : ¬ (p = q) := xne
                  have xne2 : ¬ (q = p) := fun e => xne e.symm
                  clear hp hq xne
                  generalize d.getD p 0 = x1v at c1
                  generalize d.getD q 0 = x2v at c2
                  go_wp2_with fail
                  go_roundw
                  case rel =>
                    refine ⟨v + 1, _, by omega, by go_num, HPT.out, ?_, ?_⟩
                    · rw [HPUT.out]
                      exact blk_set_int (blk_set_int HD5.out p th) q th
                    · exact (HB5.out.setCell (Nat.le_refl _) _).setCell (Nat.le_refl _) _
                  case measure => simp [intOf]; omega
              · obtain rfl : v = u := by omega
                have HRW := Lib.hid HMV.out.row
                go_wp2_with fail
                go_roundw
                case rel => exact ⟨v + 1, d, by omega, by go_num, HRW.out, HBV.out, HBF.out⟩
                case measure => simp [intOf]; omega
          · obtain rfl : u = k := by omega
            obtain ⟨hfin, hnone⟩ := HMT.out.fin HG.out HBB.out
            have HC : Hid (matC u l = 0) := matC_ok HBIG.out H0.out HBB.out hnone
            have HDL : Hid (d0.length = nn) := by rw [← HNN.out]; exact HMT.out.len
            subst hfin
            go_wp2_with fail
            go_ret2
            refine ⟨fun h => absurd HC.out h, fun _ => ⟨some ⟨db, 0, none⟩, nn, db, ?_, ?_⟩, bel_then HB2.out (by rw [HWZ.out]; exact HBE.out)⟩
            · rw [Int.toNat_natCast, HNN.out]
              rfl
            · rw [Int.toNat_natCast, HNN.out]
              have := InRow.of_blk HBK.out
              rw [HDL.out] at this
              exact this
  · obtain rfl := hbad h0
    have HC : Hid (matC n l = newErr n l) := matC_err HBIG.out h0
    have HZ := Lib.hid h0
    have t0 : (newErr n l != 0) = true := by simp [h0]
    clear hbad hok h0
    generalize newErr n l = z at *
    go_wp2_with fail
    go_ret2
    exact MtPost.no HC.out HZ.out HB1.out

end Go.Proofs.YthacjealoomioaaDoor.Lk

/- LinkageMinimax: the plain law. No program in sight. -/
namespace Go.Proofs.YthacjealoomioaaDoor.Lk
set_option linter.unusedVariables false
set_option linter.unusedSimpArgs false

/-- The tree's edges, and further ones. -/
def mnUp (U W : Nat → Nat) : Nat → List Ed
  | 0 => []
  | t + 1 => mnUp U W t ++ [⟨((t + 1 : Nat) : Int), ((U t % (t + 1) : Nat) : Int), ((W t % 50 : Nat) : Int)⟩]
def mnMo (n : Nat) (A B W : Nat → Nat) (l : List Ed) : Nat → List Ed
  | 0 => l
  | t + 1 => if A t % n = B t % n then mnMo n A B W l t else mnMo n A B W l t ++ [⟨((A t % n : Nat) : Int), ((B t % n : Nat) : Int), ((W t % 50 : Nat) : Int)⟩]

def EdOk (n : Nat) (e : Ed) : Prop := (0 ≤ e.U ∧ e.U < n) ∧ (0 ≤ e.V ∧ e.V < n) ∧ e.U ≠ e.V ∧ 0 ≤ e.W ∧ e.W ≤ 49
structure MnOk (n : Nat) (l : List Ed) : Prop where
  hn : 0 < n ∧ n ≤ 20
  ed : ∀ e ∈ l, EdOk n e
  len : l.length ≤ 60
  tree : ∀ i, i + 1 < n → ∃ j, j < l.length ∧ uN l j = i + 1 ∧ vN l j ≤ i ∧ wI l j ≤ 49

theorem mnUp_len (U W : Nat → Nat) : ∀ t, (mnUp U W t).length = t
  | 0 => rfl
  | t + 1 => by rw [mnUp, List.length_append, mnUp_len U W t]; rfl
theorem mnMo_len (n : Nat) (A B W : Nat → Nat) (l : List Ed) : ∀ t, (mnMo n A B W l t).length ≤ l.length + t
  | 0 => Nat.le_refl _
  | t + 1 => by
    have := mnMo_len n A B W l t
    rw [mnMo]
    split
    · omega
    · rw [List.length_append, List.length_singleton]; omega
theorem mnMo_pre (n : Nat) (A B W : Nat → Nat) (l : List Ed) : ∀ t, ∃ r, mnMo n A B W l t = l ++ r
  | 0 => ⟨[], (List.append_nil _).symm⟩
  | t + 1 => by
    obtain ⟨r, hr⟩ := mnMo_pre n A B W l t
    rw [mnMo]
    split
    · exact ⟨r, hr⟩
    · exact ⟨r ++ [_], by rw [hr, List.append_assoc]⟩
theorem mnUp_ed {U W : Nat → Nat} {n : Nat} : ∀ t, t < n → ∀ e ∈ mnUp U W t, EdOk n e
  | 0, _, e, he => by cases he
  | t + 1, ht, e, he => by
    rw [mnUp] at he
    rcases List.mem_append.1 he with he | he
    · exact mnUp_ed t (by omega) e he
    · rw [List.mem_singleton] at he
      subst he
      have h1 := Nat.mod_lt (U t) (show 0 < t + 1 by omega)
      have h2 := Nat.mod_lt (W t) (show 0 < 50 by omega)
      unfold EdOk
      simp only
      omega
theorem mnMo_ed {n : Nat} {A B W : Nat → Nat} {l : List Ed} (hn : 0 < n) (h : ∀ e ∈ l, EdOk n e) : ∀ t, ∀ e ∈ mnMo n A B W l t, EdOk n e
  | 0, e, he => h e he
  | t + 1, e, he => by
    rw [mnMo] at he
    split at he
    · exact mnMo_ed hn h t e he
    · rename_i hne
      rcases List.mem_append.1 he with he | he
      · exact mnMo_ed hn h t e he
      · rw [List.mem_singleton] at he
        subst he
        have h1 := Nat.mod_lt (A t) hn
        have h2 := Nat.mod_lt (B t) hn
        have h3 := Nat.mod_lt (W t) (show 0 < 50 by omega)
        unfold EdOk
        simp only
        omega
theorem EA_app {l r : List Ed} {i : Nat} (h : i < l.length) : EA (l ++ r) i = EA l i := by
  unfold EA
  rw [List.getD_eq_getElem?_getD, List.getD_eq_getElem?_getD, List.getElem?_append_left h]
theorem mnUp_at {U W : Nat → Nat} : ∀ t i, i < t → EA (mnUp U W t) i = ⟨((i + 1 : Nat) : Int), ((U i % (i + 1) : Nat) : Int), ((W i % 50 : Nat) : Int)⟩
  | t + 1, i, hi => by
    rw [mnUp]
    by_cases e : i < t
    · rw [EA_app (by rw [mnUp_len]; exact e), mnUp_at t i e]
    · obtain rfl : i = t := by omega
      unfold EA
      rw [List.getD_eq_getElem?_getD, List.getElem?_append_right (by rw [mnUp_len]; exact Nat.le_refl _), mnUp_len, Nat.sub_self]
      rfl

theorem mn_ok (U W A B W2 : Nat → Nat) {m1 m2 : Nat} (h1 : m1 ≤ 19) (h2 : m2 ≤ 40) : MnOk (m1 + 1) (mnMo (m1 + 1) A B W2 (mnUp U W m1) m2) := by
  refine ⟨by omega, mnMo_ed (by omega) (mnUp_ed m1 (by omega)) m2, ?_, fun i hi => ?_⟩
  · have := mnMo_len (m1 + 1) A B W2 (mnUp U W m1) m2
    rw [mnUp_len] at this
    omega
  · obtain ⟨r, hr⟩ := mnMo_pre (m1 + 1) A B W2 (mnUp U W m1) m2
    have e := mnUp_at (U := U) (W := W) m1 i (by omega)
    have h3 := Nat.mod_lt (U i) (show 0 < i + 1 by omega)
    have h4 := Nat.mod_lt (W i) (show 0 < 50 by omega)
    refine ⟨i, by rw [hr, List.length_append, mnUp_len]; omega, ?_, ?_, ?_⟩
    · unfold uN
      rw [hr, EA_app (by rw [mnUp_len]; omega), e]
      simp only
      omega
    · unfold vN
      rw [hr, EA_app (by rw [mnUp_len]; omega), e]
      simp only
      omega
    · unfold wI
      rw [hr, EA_app (by rw [mnUp_len]; omega), e]
      simp only
      omega

theorem MnOk.gok {n : Nat} {l : List Ed} (h : MnOk n l) : GOk n l := by
  have h1 := h.hn
  have h2 := h.len
  refine ⟨by omega, by omega, fun i hi => ?_⟩
  obtain ⟨⟨a1, a2⟩, ⟨b1, b2⟩, c, _⟩ := h.ed _ (EA_mem hi)
  exact ⟨a1, a2, b1, b2, c⟩
theorem MnOk.w {n : Nat} {l : List Ed} (h : MnOk n l) {i : Nat} (hi : i < l.length) : 0 ≤ wI l i ∧ wI l i ≤ 49 := by
  obtain ⟨_, _, _, a, b⟩ := h.ed _ (EA_mem hi)
  exact ⟨a, b⟩
theorem MnOk.conn {n : Nat} {l : List Ed} (h : MnOk n l) : ∀ x, x < n → Con (CTh l 49) x 0 := by
  intro x
  induction x using Nat.strongRecOn with
  | _ x ih =>
    intro hx
    cases x with
    | zero => exact .refl _
    | succ i =>
      obtain ⟨j, j1, j2, j3, j4⟩ := h.tree i hx
      have h1 := ih (vN l j) (by omega) (by omega)
      have h2 : Con (CTh l 49) (i + 1) (vN l j) := (Con.refl _).step (.inl ⟨j, j1, j4, j2.symm, rfl⟩)
      exact h2.trans h1
theorem MnOk.joined {n : Nat} {l : List Ed} (h : MnOk n l) {u v : Nat} (hu : u < n) (hv : v < n) (hne : u ≠ v) : ∃ d, mmV n l u v = some d ∧ d ≤ 49 := by
  refine (mm_iff h.gok hu hv hne 49).2 ?_
  exact (foTo_cut h.gok 49).eq_of ((h.conn u hu).trans (h.conn v hv).symm)
theorem MnOk.mat {n : Nat} {l : List Ed} (h : MnOk n l) : matC n l = 0 := by
  refine matC_ok (by have := h.hn; omega) h.gok.err (badB_no fun i hi => ?_) (noneB_no fun u v hu hv hne hm => ?_)
  · have := h.w hi
    unfold badE
    unfold wI at this
    omega
  · obtain ⟨d, hd, _⟩ := h.joined hu hv hne
    rw [hm] at hd; cases hd
/-- The matrix. -/
theorem MnOk.val {n : Nat} {l : List Ed} (h : MnOk n l) {u v : Nat} (hu : u < n) (hv : v < n) (hne : u ≠ v) : mmV n l u v = some (at2 n (fwK n l n) u v) ∧ 0 ≤ at2 n (fwK n l n) u v ∧ at2 n (fwK n l n) u v ≤ 49 := by
  obtain ⟨d, hd, hle⟩ := h.joined hu hv hne
  obtain ⟨e1, e2⟩ := (fw_val h.gok (fun i hi => (h.w hi).1) hu hv hne).1 d hd
  rw [e1]
  exact ⟨hd, e2, hle⟩
theorem MnOk.sym {n : Nat} {l : List Ed} (h : MnOk n l) {u v : Nat} (hu : u < n) (hv : v < n) : at2 n (fwK n l n) u v = at2 n (fwK n l n) v u := by
  by_cases e : u = v
  · subst e; rfl
  · have h1 := (h.val hu hv e).1
    have h2 := (h.val hv hu (fun q => e q.symm)).1
    rw [mmV_symm, h2] at h1
    injection h1 with h1
    exact h1.symm
theorem MnOk.check {n : Nat} {l : List Ed} (h : MnOk n l) : checkL n (fwK n l n) = 0 := by
  have hn := h.hn
  refine checkL_ok (fwK_len n l n) (by omega) (symTo_of (fun i j hi hj => h.sym hi hj) (fun i hi => fw_diag hi) n (Nat.le_refl _)) fun x hx => ?_
  rw [fwK_len] at hx
  have hp : x / n < n := (Nat.div_lt_iff_lt_mul hn.1).2 hx
  have hq : x % n < n := Nat.mod_lt _ hn.1
  have e : (fwK n l n).getD x 0 = at2 n (fwK n l n) (x / n) (x % n) := by
    unfold at2
    rw [Nat.mul_comm, Nat.div_add_mod]
  rw [e]
  by_cases hne : x / n = x % n
  · rw [hne, fw_diag hq]; omega
  · have := h.val hp hq hne
    omega
theorem MnOk.hcon {n : Nat} {l : List Ed} (h : MnOk n l) (th : Int) (x y : Nat) : Con (CTh l th) x y ↔ Con (RD n (fwK n l n) th) x y := by
  constructor
  · intro hc
    refine hc.mono fun u v hr => ?_
    have hr' := hr
    obtain ⟨i, hi, hw, rfl, rfl⟩ := hr
    obtain ⟨u1, u2, u3, _⟩ := h.gok.uv hi
    obtain ⟨d, hd, hle⟩ := (mm_iff h.gok u1 u2 u3 th).2 ((foTo_cut h.gok th).eq_of ((Con.refl _).step (.inl hr')))
    rw [(h.val u1 u2 u3).1] at hd
    injection hd with hd
    exact ⟨u1, u2, u3, by omega⟩
  · intro hc
    have one : ∀ u v, RD n (fwK n l n) th u v → Con (CTh l th) u v := fun u v ⟨a1, a2, a3, a4⟩ =>
      ((foTo_cut h.gok th).iff a1 a2).1 ((mm_iff h.gok a1 a2 a3 th).1 ⟨_, (h.val a1 a2 a3).1, a4⟩)
    induction hc with
    | refl => exact .refl _
    | step _ hr ih =>
      refine ih.trans ?_
      rcases hr with hr | hr
      · exact one _ _ hr
      · exact (one _ _ hr).symm

theorem MnOk.forest {n : Nat} {l : List Ed} (h : MnOk n l) : FN n l + 1 = n ∧ (∀ i, i + 1 < n → hg n (fwK n l n) i = wI l (fe n l i)) :=
  single_forest (DOk.of_check h.check) h.gok h.hn.1 fun th x y _ _ => h.hcon th x y

/-- How many of the first merges are up to th. -/
def mnC (n : Nat) (d : List Int) (th : Int) (i : Nat) : Nat := (List.range i).countP fun k => decide (hg n d k ≤ th)
theorem mnC_succ (n : Nat) (d : List Int) (th : Int) (i : Nat) : mnC n d th (i + 1) = if hg n d i ≤ th then mnC n d th i + 1 else mnC n d th i := by
  unfold mnC
  rw [List.range_succ, List.countP_append]
  by_cases h : hg n d i ≤ th
  · rw [if_pos h, List.countP_cons_of_pos (by simpa using h)]; rfl
  · rw [if_neg h, List.countP_cons_of_neg (by simpa using h)]; rfl
theorem mnC_le (n : Nat) (d : List Int) (th : Int) (i : Nat) : mnC n d th i ≤ i := by
  have := List.countP_le_length (p := fun k => decide (hg n d k ≤ th)) (l := List.range i)
  rw [List.length_range] at this
  exact this
theorem countP_low {k m : Nat} {p : Nat → Bool} (hk : k ≤ m) (h1 : ∀ i, i < k → p i = true) (h2 : ∀ i, k ≤ i → i < m → p i = false) : (List.range m).countP p = k := by
  induction m with
  | zero => obtain rfl : k = 0 := by omega
            rfl
  | succ m ih =>
    rw [List.range_succ, List.countP_append]
    by_cases e : k ≤ m
    · rw [ih e (fun i hk hi => h2 i hk (by omega)), List.countP_cons_of_neg (by rw [h2 m e (by omega)]; simp)]; rfl
    · obtain rfl : k = m + 1 := by omega
      rw [List.countP_eq_length.2 (fun i hi => h1 i (by rw [List.mem_range] at hi; omega)), List.length_range, List.countP_cons_of_pos (h1 m (by omega))]; rfl
theorem mnC_stage {n : Nat} {d : List Int} (hd : DOk n d) (hn : 0 < n) {th : Int} {k : Nat} (hk : k + 1 ≤ n) (h1 : ∀ i, i < k → hg n d i ≤ th) (h2 : k + 1 < n → th < hg n d k) : mnC n d th (n - 1) = k := by
  refine countP_low (by omega) (fun i hi => decide_eq_true (h1 i hi)) (fun i hk' hi => decide_eq_false ?_)
  have h3 := h2 (by omega)
  have h4 := hg_mono hd (i := k) (i - k) (by omega)
  rw [show k + (i - k) = i by omega] at h4
  omega

/-- The labels behind these merges are those of the graph at the threshold. -/
theorem MnOk.got {n : Nat} {l : List Ed} (h : MnOk n l) (th : Int) : labL n (runL n 1 (fwK n l n)) (mnC n (fwK n l n) th (n - 1)) = (0, (foTo n l (cutT l th)).k.map fun x : Nat => (x : Int)) := by
  have hd := DOk.of_check h.check
  have hn := h.hn
  obtain ⟨k, k1, k2, k3⟩ := stage_of hd hn.1 th
  rw [mnC_stage hd hn.1 k1 k2 k3]
  obtain ⟨now, e1, e2⟩ := lab_at (by omega) hd (.inl rfl) k1
  rw [e1]
  have hkey := (stage_lab hd h.gok hn.1 (fun x y _ _ => h.hcon th x y) k1 k2 k3).1
  have inv := runS_inv hd (m := 1) (.inl rfl) k (by omega)
  have nd := inv.perm.nodup_iff.2 List.nodup_range
  have hlab := foTo_cut h.gok th
  congr 1
  apply List.ext_getElem (by rw [e2.len, List.length_map, hlab.len])
  intro x h1 h2
  have hx : x < n := by rw [← e2.len]; exact h1
  obtain ⟨j, j1, j2⟩ := e2.lab x hx
  have := CL_unique nd j2 (hkey x hx)
  rw [List.getElem_map]
  rw [List.getD_eq_getElem?_getD, List.getElem?_eq_getElem h1] at j1
  have j1 : now[x] = (j : Int) := j1
  rw [j1, this]
  have hlx : x < (foTo n l (cutT l th)).k.length := by rw [hlab.len]; exact hx
  rw [List.getD_eq_getElem?_getD, List.getElem?_eq_getElem hlx]
  rfl

/-- Labels spread along the first edges. -/
def spE (l : List Ed) (th : Int) (k : List Nat) : Nat → List Nat
  | 0 => k
  | t + 1 => if wI l t ≤ th then ((spE l th k t).set (uN l t) (min ((spE l th k t).getD (uN l t) 0) ((spE l th k t).getD (vN l t) 0))).set (vN l t) (min ((spE l th k t).getD (uN l t) 0) ((spE l th k t).getD (vN l t) 0)) else spE l th k t
def spR (n : Nat) (l : List Ed) (th : Int) : Nat → List Nat
  | 0 => List.range n
  | r + 1 => spE l th (spR n l th r) l.length
theorem spE_len (l : List Ed) (th : Int) (k : List Nat) : ∀ t, (spE l th k t).length = k.length
  | 0 => rfl
  | t + 1 => by
    rw [spE]
    split
    · rw [List.length_set, List.length_set, spE_len l th k t]
    · exact spE_len l th k t
theorem spR_len (n : Nat) (l : List Ed) (th : Int) : ∀ r, (spR n l th r).length = n
  | 0 => List.length_range
  | r + 1 => by rw [spR, spE_len, spR_len n l th r]
theorem getD_set2 {q : List Nat} {u v m x : Nat} (hu : u < q.length) (hv : v < q.length) : ((q.set u m).set v m).getD x 0 = if x = u ∨ x = v then m else q.getD x 0 := by
  rw [List.getD_eq_getElem?_getD, List.getElem?_set, List.length_set]
  by_cases e : v = x
  · subst e
    rw [if_pos rfl, if_pos hv, if_pos (.inr rfl)]; rfl
  · rw [if_neg e, List.getElem?_set]
    by_cases e2 : u = x
    · subst e2
      rw [if_pos rfl, if_pos hu, if_pos (.inl rfl)]; rfl
    · rw [if_neg e2, if_neg (by omega), List.getD_eq_getElem?_getD]
theorem spE_mono {n : Nat} {l : List Ed} (hg : GOk n l) (th : Int) {k : List Nat} (hk : k.length = n) : ∀ t, t ≤ l.length → ∀ x, (spE l th k t).getD x 0 ≤ k.getD x 0
  | 0, _, x => Nat.le_refl _
  | t + 1, ht, x => by
    have ih := spE_mono hg th hk t (by omega)
    obtain ⟨u1, u2, _⟩ := hg.uv (i := t) (by omega)
    have hl := spE_len l th k t
    rw [spE]
    split
    · rw [getD_set2 (by omega) (by omega)]
      split
      · rename_i h
        have a := ih (uN l t)
        have b := ih (vN l t)
        rcases h with rfl | rfl <;> omega
      · exact ih x
    · exact ih x
theorem spE_hit {n : Nat} {l : List Ed} (hg : GOk n l) (th : Int) {k : List Nat} (hk : k.length = n) : ∀ t, t ≤ l.length → ∀ i, i < t → wI l i ≤ th → (spE l th k t).getD (uN l i) 0 ≤ k.getD (vN l i) 0 ∧ (spE l th k t).getD (vN l i) 0 ≤ k.getD (uN l i) 0
  | t + 1, ht, i, hi, hw => by
    have ihm := spE_mono hg th hk t (by omega)
    obtain ⟨u1, u2, _⟩ := hg.uv (i := t) (by omega)
    have hl := spE_len l th k t
    have a := ihm (uN l t)
    have b := ihm (vN l t)
    by_cases e : i = t
    · subst e
      rw [spE, if_pos hw, getD_set2 (by omega) (by omega), if_pos (.inl rfl), getD_set2 (by omega) (by omega), if_pos (.inr rfl)]
      omega
    · obtain ⟨c1, c2⟩ := spE_hit hg th hk t (by omega) i (by omega) hw
      rw [spE]
      split
      · rw [getD_set2 (by omega) (by omega), getD_set2 (by omega) (by omega)]
        have low : ∀ x, (if x = uN l t ∨ x = vN l t then min ((spE l th k t).getD (uN l t) 0) ((spE l th k t).getD (vN l t) 0) else (spE l th k t).getD x 0) ≤ (spE l th k t).getD x 0 := fun x => by
          split
          · rename_i h
            rcases h with rfl | rfl <;> omega
          · exact Nat.le_refl _
        exact ⟨Nat.le_trans (low _) c1, Nat.le_trans (low _) c2⟩
      · exact ⟨c1, c2⟩
theorem spE_con {n : Nat} {l : List Ed} (hg : GOk n l) (th : Int) {k : List Nat} (hk : k.length = n) (hc : ∀ x, x < n → Con (CTh l th) x (k.getD x 0)) : ∀ t, t ≤ l.length → ∀ x, x < n → Con (CTh l th) x ((spE l th k t).getD x 0)
  | 0, _, x, hx => hc x hx
  | t + 1, ht, x, hx => by
    have ih := spE_con hg th hk hc t (by omega)
    obtain ⟨u1, u2, _⟩ := hg.uv (i := t) (by omega)
    have hl := spE_len l th k t
    rw [spE]
    split
    · rename_i hw
      rw [getD_set2 (by omega) (by omega)]
      have huv : Con (CTh l th) (uN l t) (vN l t) := (Con.refl _).step (.inl ⟨t, by omega, hw, rfl, rfl⟩)
      have cu := ih _ u1
      have cv := ih _ u2
      have hmin : min ((spE l th k t).getD (uN l t) 0) ((spE l th k t).getD (vN l t) 0) = (spE l th k t).getD (uN l t) 0 ∨ min ((spE l th k t).getD (uN l t) 0) ((spE l th k t).getD (vN l t) 0) = (spE l th k t).getD (vN l t) 0 := by omega
      split
      · rename_i h
        rcases h with rfl | rfl
        · rcases hmin with e | e <;> rw [e]
          · exact cu
          · exact huv.trans cv
        · rcases hmin with e | e <;> rw [e]
          · exact huv.symm.trans cu
          · exact cv
      · exact ih x hx
    · exact ih x hx
theorem spR_con {n : Nat} {l : List Ed} (hg : GOk n l) (th : Int) : ∀ r x, x < n → Con (CTh l th) x ((spR n l th r).getD x 0)
  | 0, x, hx => by
    have : (spR n l th 0).getD x 0 = x := by
      show (List.range n).getD x 0 = x
      rw [List.getD_eq_getElem?_getD, List.getElem?_range hx]; rfl
    rw [this]; exact .refl _
  | r + 1, x, hx => spE_con hg th (spR_len n l th r) (spR_con hg th r) _ (Nat.le_refl _) x hx
theorem range_getD_le (n x : Nat) : (List.range n).getD x 0 ≤ x := by
  rw [List.getD_eq_getElem?_getD]
  by_cases h : x < n
  · rw [List.getElem?_range h]; exact Nat.le_refl _
  · rw [List.getElem?_eq_none (by simp; omega)]; exact Nat.zero_le _
theorem spR_self {n : Nat} {l : List Ed} (hg : GOk n l) (th : Int) : ∀ r x, (spR n l th r).getD x 0 ≤ x
  | 0, x => range_getD_le n x
  | r + 1, x => Nat.le_trans (spE_mono hg th (spR_len n l th r) _ (Nat.le_refl _) x) (spR_self hg th r x)
theorem spR_mono {n : Nat} {l : List Ed} (hg : GOk n l) (th : Int) (r x : Nat) : ∀ d, (spR n l th (r + d)).getD x 0 ≤ (spR n l th r).getD x 0
  | 0 => Nat.le_refl _
  | d + 1 => Nat.le_trans (spE_mono hg th (spR_len n l th (r + d)) _ (Nat.le_refl _) x) (spR_mono hg th r x d)
theorem spR_walk {n : Nat} {l : List Ed} (hg : GOk n l) (th : Int) {v : Nat} : ∀ {k x : Nat}, Wk (CTh l th) v k x → (spR n l th k).getD x 0 ≤ v := by
  intro k x h
  induction h with
  | here => exact spR_self hg th 0 v
  | @step k x y hr _ ih =>
    rcases hr with ⟨i, hi, hw, rfl, rfl⟩ | ⟨i, hi, hw, rfl, rfl⟩
    · exact Nat.le_trans (spE_hit hg th (spR_len n l th k) _ (Nat.le_refl _) i hi hw).1 ih
    · exact Nat.le_trans (spE_hit hg th (spR_len n l th k) _ (Nat.le_refl _) i hi hw).2 ih
/-- A shortest walk passes through different vertices. -/
theorem sh_list {R : Nat → Nat → Prop} {n v : Nat} (hR : ∀ a b, R a b → a < n ∧ b < n) (hv : v < n) : ∀ k x, Sh R v k x → ∃ L : List Nat, L.length = k + 1 ∧ L.Nodup ∧ (∀ y ∈ L, y < n ∧ ∃ j, j ≤ k ∧ Sh R v j y)
  | 0, x, h => ⟨[v], rfl, by simp, fun y hy => by rw [List.mem_singleton] at hy; subst hy; exact ⟨hv, 0, Nat.le_refl _, Sh.self R y⟩⟩
  | k + 1, x, h => by
    obtain ⟨y, hr, hy⟩ := h.down
    obtain ⟨L, l1, l2, l3⟩ := sh_list hR hv k y hy
    have hx : x < n := by
      rcases hr with hr | hr
      · exact (hR _ _ hr).1
      · exact (hR _ _ hr).2
    refine ⟨x :: L, by rw [List.length_cons, l1], List.nodup_cons.2 ⟨fun hm => ?_, l2⟩, fun z hz => ?_⟩
    · obtain ⟨_, j, j1, j2⟩ := l3 x hm
      have := h.unique j2
      omega
    · rcases List.mem_cons.1 hz with rfl | hz
      · exact ⟨hx, k + 1, Nat.le_refl _, h⟩
      · obtain ⟨a, j, j1, j2⟩ := l3 z hz
        exact ⟨a, j, by omega, j2⟩
theorem spR_lab {n : Nat} {l : List Ed} (hg : GOk n l) (th : Int) : IsLab n (CTh l th) (spR n l th n) := by
  have low : ∀ x m, x < n → m < n → Con (CTh l th) x m → (spR n l th n).getD x 0 ≤ m := fun x m hx hm hc => by
    obtain ⟨k, hk⟩ := Sh.of_con (R := CTh l th) (v := m) hc
    have hR : ∀ a b, CTh l th a b → a < n ∧ b < n := fun a b ⟨i, hi, _, e1, e2⟩ => by
      obtain ⟨u1, u2, _⟩ := hg.uv hi
      omega
    obtain ⟨L, l1, l2, l3⟩ := sh_list hR hm k x hk
    have hb := nodup_bound n L l2 fun y hy => (l3 y hy).1
    have h1 := spR_mono hg th k x (n - k)
    rw [show k + (n - k) = n by omega] at h1
    exact Nat.le_trans h1 (spR_walk hg th hk.1)
  have hcon := spR_con hg th n
  have hself := spR_self hg th n
  refine ⟨spR_len n l th n, fun x _ => hself x, hcon, fun u v hr => ?_⟩
  have huv : u < n ∧ v < n := by
    obtain ⟨i, hi, _, e1, e2⟩ := hr
    obtain ⟨u1, u2, _⟩ := hg.uv hi
    omega
  have hc : Con (CTh l th) u v := (Con.refl _).step (.inl hr)
  have a := low u _ huv.1 (by have := hself v; omega) (hc.trans (hcon v huv.2))
  have b := low v _ huv.2 (by have := hself u; omega) (hc.symm.trans (hcon u huv.1))
  exact ⟨huv.1, huv.2, by omega⟩
theorem MnOk.same {n : Nat} {l : List Ed} (h : MnOk n l) (th : Int) : spR n l th n = (foTo n l (cutT l th)).k := (spR_lab h.gok th).unique (foTo_cut h.gok th)

end Go.Proofs.YthacjealoomioaaDoor.Lk

/- A region that draws its order: reads beside a chain, as in BagS, and slots that are read ahead of what writes them. No program in sight. -/
namespace Go.Proofs.YthacjealoomioaaDoor
set_option linter.unusedVariables false
set_option linter.unusedSimpArgs false
open Go.RowKit

/-- The slot t is written by no operation before the k-th. -/
def lateB (l : List Oper) (t : Tmp) (k : Nat) : Bool := (List.range l.length).all fun j => !decide ((l[j]?).bind (fun o : Oper => o.dst) = some t) || decide (k ≤ j)
theorem lateB_at {l : List Oper} {t : Tmp} {k j : Nat} (h : lateB l t k = true) (hj : j < l.length) (hd : (l[j]?).bind (fun o : Oper => o.dst) = some t) : k ≤ j := by
  have := List.all_eq_true.1 h j (List.mem_range.2 hj)
  rw [hd] at this
  simpa using this
theorem apA_eval_late {ops : Array Oper} {L : Nat → Bool} {xs : Nat → Value} {a0 : Act} {x : Operand} (h : ∀ (i : Nat) (d : Tmp), L i = true → (ops[i]?).bind (fun o : Oper => o.dst) = some d → x ≠ .tmp d) : ∀ n, (apA ops L xs a0 n).eval x = a0.eval x
  | 0 => rfl
  | n + 1 => by
    rw [apA]
    split
    · rename_i hL
      rw [Act.eval_put (fun d hd => h n d hL hd)]
      exact apA_eval_late h n
    · exact apA_eval_late h n

/-- The law of Bag, with what is read of a slot that is written later. -/
theorem wp_region_bagL {P : Program} {id : Nat} {Q : Exit → Act → World → Prop} {a0 : Act} {w0 : World} {l : List Oper} (hm : P.follows .mixedOrders = true) (hb : backB l.toArray = true) (hd : dstB l.toArray = true)
    (J : (Nat → Bool) → (Nat → Value) → World → Prop) (h0 : ∀ w, w = w0.drew → J (fun _ => false) (fun _ => undef) w)
    (hstep : ∀ (L : Nat → Bool) (xs : Nat → Value) (w : World) (i : Nat) (o : Oper) (A : Act), (∀ t, (∀ j, L j = true → (l[j]?).bind (fun o : Oper => o.dst) ≠ some t) → A.eval (.tmp t) = a0.eval (.tmp t)) → (∀ t, noDstB l.toArray t = true → A.eval (.tmp t) = a0.eval (.tmp t)) → (∀ (j : Nat) (d : Tmp), L j = true → (l[j]?).bind (fun o : Oper => o.dst) = some d → d < a0.tmps.size → A.eval (.tmp d) = xs j) →
      J L xs w → l[i]? = some o → L i = false → (∀ e ∈ o.after, Region.binds .any e = true → L e.on = true) → Region.wanted o (yielded l.toArray A.tmps) = true ∧ o.wp P A w (fun a' w' => ∃ v, a' = A.put o.dst v ∧ J (upd L i true) (upd xs i v) w') (fun _ _ _ => False))
    (hend : ∀ (L : Nat → Bool) (xs : Nat → Value) (w : World), (∀ i, i < l.length → L i = true) → J L xs w → Q .normal (putAll l xs 0 a0) w) : (Code.region id l.toArray true).wp P Q a0 w0 := by
  have hend : ∀ (L : Nat → Bool) (xs : Nat → Value) (w : World), (∀ i, i < l.length → L i = true) → J L xs w → Q .normal (apAll l.toArray xs a0 l.length) w := fun L xs w h1 h2 => by
    rw [apAll_put _ (Nat.le_refl _), List.take_of_length_le (Nat.le_refl _)]
    exact hend L xs w h1 h2
  refine wp_region_any hm ?_
  have key : ∀ (fuel : Nat) (L : Nat → Bool) (xs : Nat → Value) (w : World), leftN L l.length = fuel → J L xs w → wpAny P .any l.toArray Q fuel (listB L l.toArray.size) (apA l.toArray L xs a0 l.length) w := by
    intro fuel
    induction fuel with
    | zero =>
      intro L xs w hl hj
      have hall := leftN_zero _ hl
      refine ⟨?_, by rw [apA_all _ hall]; exact hend L xs w hall hj⟩
      apply Classical.byContradiction
      intro hne
      obtain ⟨i, hi⟩ := List.exists_mem_of_ne_nil _ hne
      obtain ⟨h1, h2, _⟩ := (ready_listB hb).1 hi
      rw [hall i (by simpa using h1)] at h2
      cases h2
    | succ fuel ih =>
      intro L xs w hl hj
      refine ⟨fun hr => ?_, fun i hi => ?_⟩
      · have hall := ready_all hb hr
        have hall' : ∀ i, i < l.length → L i = true := fun i hi => hall i (by simpa using hi)
        rw [apA_all _ hall']
        exact hend L xs w hall' hj
      · obtain ⟨h1, h2, h3⟩ := (ready_listB hb).1 hi
        have ho : l.toArray[i]? = some (l[i]'(by simpa using h1)) := by simp
        have ho' : l[i]? = some (l[i]'(by simpa using h1)) := by simp
        obtain ⟨hw, hs⟩ := hstep L xs w i _ (apA l.toArray L xs a0 l.length) (fun t ht => apA_eval_late (fun i d hL hd e => by injection e with e; subst e; exact ht i hL (by simpa using hd)) _) (fun t ht => apA_eval_no ht _) (fun j d hj hjd hds => apA_eval hd hj (by simpa using hjd) hds _ (by
          obtain ⟨o, ho, _⟩ := Option.bind_eq_some_iff.1 hjd
          exact (List.getElem?_eq_some_iff.1 ho).1)) hj ho' h2 (fun e he hbd => h3 _ ho e he hbd)
        unfold wpOp
        rw [ho]
        simp only
        rw [if_pos hw]
        left
        unfold Oper.wp at hs ⊢
        generalize (execOp (apA l.toArray L xs a0 l.length).eval (l[i]'(by simpa using h1))).run P w = r at hs ⊢
        have fin : ∀ a' w', (∃ v, a' = (apA l.toArray L xs a0 l.length).put (l[i]'(by simpa using h1)).dst v ∧ J (upd L i true) (upd xs i v) w') → wpAny P .any l.toArray Q fuel ((listB L l.toArray.size).setIfInBounds i true) a' w' := by
          rintro a' w' ⟨v, rfl, hj'⟩
          rw [listB_set]
          have hp := apA_put hd (a0 := a0) h2 v (xs := xs) l.length (by simpa using h1)
          rw [ho] at hp
          simp only [Option.bind_some] at hp
          rw [← hp]
          refine ih _ _ _ ?_ hj'
          have := leftN_upd h2 l.length (by simpa using h1)
          omega
        cases r with
        | ok x w' =>
          cases x with
          | value v => exact fin _ _ hs
          | skip => exact fin _ _ hs
          | defer d => exact fin _ _ hs
          | enter f args => exact Calls.mono hs (fun e w'' he => by cases e <;> first | exact fin _ _ he | exact he.elim | (obtain ⟨_, _, h⟩ := he; exact h.elim))
          | row row args => exact Rows.mono hs (fun _ _ he => fin _ _ he)
          | _ => exact hs
        | halt x w' => cases x <;> first | exact hs | exact hs.elim
  have hs0 : leftN (fun _ => false) l.length = l.toArray.size := by
    have : ∀ n, leftN (fun _ => false) n = n := by
      intro n
      induction n with
      | zero => rfl
      | succ n ih => rw [leftN, ih]; simp
    rw [this]; simp
  have hl0 : listB (fun _ => false) l.toArray.size = Array.replicate l.toArray.size false := by
    unfold listB
    apply Array.ext (by simp)
    intro i h1 h2
    simp
  have ha0 : ∀ n, apA l.toArray (fun _ => false) (fun _ => undef) a0 n = a0 := by
    intro n
    induction n with
    | zero => rfl
    | succ n ih => rw [apA, ih]; simp
  have := key _ (fun _ => false) (fun _ => undef) w0.drew hs0 (h0 _ rfl)
  rw [hl0, ha0] at this
  exact this

/-- Reads beside a chain: F says what a read leaves; St ys: the world behind the first operations of the chain, which left ys. -/
theorem wp_region_late {P : Program} {id : Nat} {Q : Exit → Act → World → Prop} {a0 : Act} {w0 : World} {l : List Oper} (n : Nat) (hm : P.follows .mixedOrders = true) (hb : backB l.toArray = true) (hd : dstB l.toArray = true) (hch : chainB l n = true)
    (hback : (List.range l.length).all (fun i => match l[i]? with | none => true | some o => o.after.all fun e => !Region.binds .any e || decide (e.on < i)) = true)
    (F : Nat → Value → Prop) (St : List Value → World → Prop) (h0 : St [] w0.drew)
    (hread : ∀ (W : World) (ys : List Value) (i : Nat) (o : Oper) (A : Act), i < n → St ys W → (∀ j o', n ≤ j → j < n + ys.length → l[j]? = some o' → ∀ e ∈ o'.after, Region.binds .any e = true → e.on ≠ i) →
      (∀ t k, n + ys.length ≤ k → lateB l t k = true → A.eval (.tmp t) = a0.eval (.tmp t)) → (∀ t, noDstB l.toArray t = true → A.eval (.tmp t) = a0.eval (.tmp t)) →
      (∀ (e : Edge) (d : Tmp), e ∈ o.after → Region.binds .any e = true → (l[e.on]?).bind (fun o : Oper => o.dst) = some d → d < a0.tmps.size → F e.on (A.eval (.tmp d))) → l[i]? = some o →
      Region.wanted o (yielded l.toArray A.tmps) = true ∧ o.wp P A W (fun a' w' => ∃ v, a' = A.put o.dst v ∧ F i v ∧ w' = W) (fun _ _ _ => False))
    (htail : ∀ (W : World) (ys : List Value) (o : Oper) (A : Act), St ys W → l[n + ys.length]? = some o →
      (∀ t k, n + ys.length ≤ k → lateB l t k = true → A.eval (.tmp t) = a0.eval (.tmp t)) → (∀ t, noDstB l.toArray t = true → A.eval (.tmp t) = a0.eval (.tmp t)) →
      (∀ (e : Edge) (d : Tmp), e ∈ o.after → Region.binds .any e = true → (l[e.on]?).bind (fun o : Oper => o.dst) = some d → d < a0.tmps.size → (e.on < n → F e.on (A.eval (.tmp d))) ∧ ∀ q, e.on = n + q → ys[q]? = some (A.eval (.tmp d))) →
      Region.wanted o (yielded l.toArray A.tmps) = true ∧ o.wp P A W (fun a' w' => ∃ v, a' = A.put o.dst v ∧ St (ys ++ [v]) w') (fun _ _ _ => False))
    (hend : ∀ (xs : Nat → Value) (W : World), St ((List.range (l.length - n)).map fun q => xs (n + q)) W → (∀ i, i < n → i < l.length → F i (xs i)) → Q .normal (putAll l xs 0 a0) W) : (Code.region id l.toArray true).wp P Q a0 w0 := by
  have back : ∀ i o, l[i]? = some o → ∀ e ∈ o.after, Region.binds .any e = true → e.on < i := fun i o ho e he hbd => by
    have := List.all_eq_true.1 hback i (List.mem_range.2 (List.getElem?_eq_some_iff.1 ho).1)
    rw [ho] at this
    simp only [Array.all_eq_true', Bool.or_eq_true, Bool.not_eq_true', decide_eq_true_eq] at this
    rcases this e he with h | h
    · rw [hbd] at h; cases h
    · exact h
  refine wp_region_bagL hm hb hd (fun L xs W => ∃ s, n + s ≤ max n l.length ∧ (∀ j, n ≤ j → j < l.length → (L j = true ↔ j < n + s)) ∧ (∀ i, i < n → L i = true → F i (xs i)) ∧ St ((List.range s).map fun q => xs (n + q)) W ∧ (∀ j o', L j = true → l[j]? = some o' → ∀ e ∈ o'.after, Region.binds .any e = true → L e.on = true)) (fun w e => ⟨0, by omega, fun j h1 h2 => by simp; omega, (fun i _ h => by cases h), (by rw [e]; exact h0), (fun j o' h => by cases h)⟩) ?_ ?_
  · rintro L xs W i o A h0' h1 h2 ⟨s, hs, hL, hF, hSt, hcl⟩ ho hi hdep
    have hlate : ∀ t k, n + s ≤ k → lateB l t k = true → A.eval (.tmp t) = a0.eval (.tmp t) := fun t k hk ht => h0' t fun j hj hjd => by
      have hjl : j < l.length := by
        obtain ⟨o2, ho2, _⟩ := Option.bind_eq_some_iff.1 hjd
        exact (List.getElem?_eq_some_iff.1 ho2).1
      have := lateB_at ht hjl hjd
      have := (hL j (by omega) hjl).1 hj
      omega
    have hil := (List.getElem?_eq_some_iff.1 ho).1
    have hcl' : ∀ j o', upd L i true j = true → l[j]? = some o' → ∀ e ∈ o'.after, Region.binds .any e = true → upd L i true e.on = true := fun j o' hj ho' e he hbd => by
      have hup : ∀ x, L x = true → upd L i true x = true := fun x hx => by
        by_cases e : x = i
        · rw [e, upd_same]
        · rw [upd_ne _ _ e]; exact hx
      by_cases e2 : j = i
      · subst e2
        rw [ho] at ho'
        injection ho' with ho'
        subst ho'
        exact hup _ (hdep e he hbd)
      · rw [upd_ne _ _ e2] at hj
        exact hup _ (hcl j o' hj ho' e he hbd)
    by_cases hin : i < n
    · obtain ⟨hw, hsx⟩ := hread W _ i o A hin hSt (fun j o' hj1 hj2 ho' e he hbd hei => by
          rw [List.length_map, List.length_range] at hj2
          have hjl := (List.getElem?_eq_some_iff.1 ho').1
          have := hcl j o' ((hL j hj1 hjl).2 hj2) ho' e he hbd
          rw [hei, hi] at this
          cases this) (fun t k hk ht => hlate t k (by rw [List.length_map, List.length_range] at hk; exact hk) ht) h1 (fun e d he hbd hd' hds => by
          have hlt := back i o ho e he hbd
          rw [h2 e.on d (hdep e he hbd) hd' hds]
          exact hF _ (by omega) (hdep e he hbd)) ho
      refine ⟨hw, Oper.wp_mono ?_ hsx⟩
      rintro a' w' ⟨v, e1, e2, rfl⟩
      refine ⟨v, e1, s, hs, fun j hj hjl => ?_, fun j hj hjL => ?_, ?_, hcl'⟩
      · rw [upd_ne _ _ (by omega)]
        exact hL j hj hjl
      · by_cases e : j = i
        · subst e; rw [upd_same]; exact e2
        · rw [upd_ne _ _ e] at hjL ⊢
          exact hF j hj hjL
      · have : (fun q => upd xs i v (n + q)) = fun q => xs (n + q) := by
          funext q
          exact upd_ne _ _ (by omega)
        rw [this]
        exact hSt
    · have his : i = n + s := by
        have hge : ¬ i < n + s := fun h => by
          have := (hL i (by omega) hil).2 h
          rw [hi] at this
          cases this
        apply Classical.byContradiction
        intro hne
        obtain ⟨j, rfl⟩ : ∃ j, i = j + 1 := ⟨i - 1, by omega⟩
        obtain ⟨e, he, hbd, hej⟩ := chain_at hch (j := j) (by omega) ho
        have := hdep e he hbd
        rw [hej] at this
        have := (hL j (by omega) (by omega)).1 this
        omega
      obtain ⟨hw, hsx⟩ := htail W _ o A hSt (by rw [List.length_map, List.length_range, ← his]; exact ho) (fun t k hk ht => hlate t k (by rw [List.length_map, List.length_range] at hk; exact hk) ht) h1 (fun e d he hbd hd' hds => by
        rw [h2 e.on d (hdep e he hbd) hd' hds]
        refine ⟨fun hlt => hF _ hlt (hdep e he hbd), fun q hq => ?_⟩
        have hlt := back i o ho e he hbd
        rw [List.getElem?_map, List.getElem?_range (by omega), hq]
        rfl)
      refine ⟨hw, Oper.wp_mono ?_ hsx⟩
      rintro a' w' ⟨v, e1, e2⟩
      refine ⟨v, e1, s + 1, by omega, fun j hj hjl => ?_, fun j hj hjL => ?_, ?_, hcl'⟩
      · by_cases e : j = i
        · subst e; rw [upd_same]; simp; omega
        · rw [upd_ne _ _ e, hL j hj hjl]; omega
      · rw [upd_ne _ _ (by omega)] at hjL ⊢
        exact hF j hj hjL
      · have : (List.range (s + 1)).map (fun q => upd xs i v (n + q)) = ((List.range s).map fun q => xs (n + q)) ++ [v] := by
          rw [List.range_succ, List.map_append, List.map_singleton, ← his, upd_same]
          congr 1
          refine List.map_congr_left fun q hq => ?_
          rw [List.mem_range] at hq
          exact upd_ne _ _ (by omega)
        rw [this]
        exact e2
  · rintro L xs W hall ⟨s, hs, hL, hF, hSt, hcl⟩
    refine hend xs W ?_ (fun i h1 h2 => hF i h1 (hall i h2))
    have : s = l.length - n := by
      by_cases hz : l.length ≤ n
      · omega
      · have h1 := (hL (l.length - 1) (by omega) (by omega)).1 (hall _ (by omega))
        omega
    rw [← this]
    exact hSt

/-- An operation that leaves a value; an append. -/
theorem wp_valD {P : Program} {o : Oper} {a : Act} {w w' : World} {K : Act → World → Prop} {F : Exit → Act → World → Prop} {v : Value} (h : (execOp a.eval o).run P w = .ok (.value v) w') (hk : K (a.put o.dst v) w') : o.wp P a w K F := by
  unfold Oper.wp; rw [h]; exact hk
theorem wp_apD {P : Program} {d : Tmp} {t ty : TypeId} {s x : Operand} {pos : String} {aft : Array Edge} {gd : Option (Nat × Bool)} {a : Act} {K : Act → World → Prop} {F : Exit → Act → World → Prop} {w : World}
    (e : TypeId) (z : Value) (size bytes : Nat) (ht : P.underlying t = some (.slice e)) (hz : (P.info? e).map (fun i => (i.zero, i.size, i.bytes)) = some (some z, size, bytes))
    (hzs : z.cells.size = size) (hsz : 0 < size) (v : Value) (n : Nat) (xs : List Value) (hs : a.eval s = v) (hown : w.ownsRow 0 e size v n xs)
    (ad : Addr) (m c : Nat) (news : List Value) (hx : a.eval x = .slice (some ad) m c) (hl : news.length = m * size) (hnews : ∀ j u, news[j]? = some u → w.cell? (ad.add j) = some u) (h1 : ∀ u ∈ news, u.oneCell' = true)
    (h63 : n + m ≤ maxLen) (hbytes : (n + m) * bytes ≤ 140737488355328)
    (h : ∀ v' w', w'.ownsRow 0 e size v' (n + m) (xs ++ news) → w.grownBy w' v.ownBlock → (∀ k, v'.ownBlock = some k → v.ownBlock = some k ∨ w.heap.size ≤ k) → K (a.put (some d) v') w') :
    Oper.wp P ⟨some d, .call { callee := .builtin .append, args := #[s, x], argTypes := #[t, t] }, ty, pos, aft, gd⟩ a w K F := by
  obtain ⟨v', w', hr, h2, h3, h4⟩ := run_appendB (P := P) w t ty e z size bytes ht hz hzs hsz v n xs hown ad m c news hl hnews h1 h63 hbytes
  unfold Oper.wp execOp
  simp only [resolve, invoke, builtin, Sem.run_bind, Sem.run_pure, Result.andThen_ok, List.map_toArray, List.map_cons, List.map_nil, hs, hx, hr]
  exact h v' w' h2 h3 h4

end Go.Proofs.YthacjealoomioaaDoor

/- The walk of LinkageMinimax. -/
namespace Go.Proofs.YthacjealoomioaaDoor.Lk
set_option linter.unusedVariables false
set_option linter.unusedSimpArgs false
open Go.RowKit

/-- Lines that come in. -/
structure LRow (w : World) (ao : Option Addr) (len b off : Nat) (U V X : Nat → Nat) : Prop where
  lim : len ≤ 9223372036854775807
  adr : 0 < len → ao = some ⟨b, off, none⟩
  cell : ∀ i, i < len → w.cell? ⟨b, off + i * 3, none⟩ = some (.int .u8 (U i : Int)) ∧ w.cell? ⟨b, off + i * 3 + 1, none⟩ = some (.int .u8 (V i : Int)) ∧ w.cell? ⟨b, off + i * 3 + 2, none⟩ = some (.int .u32 (X i : Int))
  le : ∀ i, i < len → U i ≤ 255 ∧ V i ≤ 255 ∧ X i ≤ 4294967295
theorem LRow.below {w w' : World} {ao : Option Addr} {len b off : Nat} {U V X : Nat → Nat} (h : LRow w ao len b off U V X) (hb : Below w.heap.size w w') : LRow w' ao len b off U V X :=
  ⟨h.lim, h.adr, fun i hi => by
    obtain ⟨a, b, c⟩ := h.cell i hi
    exact ⟨(hb.cell (World.block_lt_of_cell? w _ a)).trans a, (hb.cell (World.block_lt_of_cell? w _ b)).trans b, (hb.cell (World.block_lt_of_cell? w _ c)).trans c⟩, h.le⟩

/-- Beside reads: a block made, appended, assigned. -/
def StAp (w3 wr : World) (T : TypeId) (size n : Nat) (blk row' : List Value) (ys : List Value) (W : World) : Prop :=
  match ys with
  | [] => W = wr.drew
  | [y] => y = .slice (some ⟨wr.heap.size, 0, none⟩) 1 1 ∧ W = wr.drew.alloc (.cells blk.toArray T)
  | [_, z] => W.ownsRow 0 T size z n row' ∧ (∀ x, z.ownBlock = some x → w3.heap.size ≤ x) ∧ Below w3.heap.size w3 W
  | [_, z, p] => (W.ownsRow 0 T size z n row' ∧ (∀ x, z.ownBlock = some x → w3.heap.size ≤ x) ∧ Below w3.heap.size w3 W) ∧ p = z
  | _ => False
theorem StAp.bel {w3 wr : World} {T : TypeId} {size n : Nat} {blk row' : List Value} {ys : List Value} {W : World} (h : StAp w3 wr T size n blk row' ys W) (hb : Below w3.heap.size w3 wr) : Below w3.heap.size w3 W := by
  match ys, h with
  | [], h => rw [show W = wr.drew from h]; exact hb.drew
  | [y], h => rw [h.2]; exact hb.drew.alloc (by simpa using hb.size) _
  | [_, z], h => exact h.2.2
  | [_, z, p], h => exact h.1.2.2
theorem edCells_one (l : List Ed) (e : Ed) : edCells (l ++ [e]) = edCells l ++ [.int .i64 e.U, .int .i64 e.V, .int .i64 e.W] := by
  unfold edCells; rw [List.flatMap_append]; rfl
theorem runL_lenM (n : Nat) (m : Int) (d : List Int) : (runL n m d).length = n - 1 := runS_ms_length n m d (n - 1)
theorem row_mergesM {w : World} {v : Value} {n : Nat} {m : Int} {d : List Int} {T : TypeId} (h : w.ownsRow 0 T 5 v (n - 1) ((runL n m d).flatMap Mg.cells)) : ∃ ao cap b, v = .slice ao (n - 1) cap ∧ MRow w ao (n - 1) b 0 (runL n m d) := by
  rw [← runL_lenM n m d] at h
  obtain ⟨ao, cap, b, h1, h2, _⟩ := MRow.of_owns h
  rw [runL_lenM] at h1 h2
  exact ⟨ao, cap, b, h1, h2⟩
theorem app_edgeM {B : Nat} {wr w6 : World} {o : Obj} {v v6 : Value} {L : List Ed} {x : Ed} (hv : ∀ k, v.ownBlock = some k → B ≤ k) (hB : B ≤ wr.heap.size) (ho : w6.ownsRow 0 35 3 v6 (L.length + 1) (edCells L ++ [.int .i64 x.U, .int .i64 x.V, .int .i64 x.W])) (hg : (wr.alloc o).grownBy w6 v.ownBlock)
    (hn : ∀ k, v6.ownBlock = some k → v.ownBlock = some k ∨ (wr.alloc o).heap.size ≤ k) : w6.ownsRow 0 35 3 v6 (L ++ [x]).length (edCells (L ++ [x])) ∧ (∀ k, v6.ownBlock = some k → B ≤ k) ∧ Below B wr w6 := by
  refine ⟨by rw [edCells_one, List.length_append]; exact ho, fun k hk => ?_, ((Below.refl _ _).alloc hB o).trans (grown_below hg hv (by simp; omega))⟩
  rcases hn k hk with e | e
  · exact hv k e
  · simp at e; omega
theorem owns_lims {w : World} {B : Nat} {e : TypeId} {size n cap : Nat} {ao : Option Addr} {xs : List Value} (h : w.ownsRow B e size (.slice ao n cap) n xs) : (n ≤ cap ∧ cap ≤ 9223372036854775807) ∧ (ao = none → cap = 0) := by
  rcases h.2 with ⟨e1, e2⟩ | ⟨g, c, cur, e1, _, _, h1, h2, _⟩
  · injection e1 with e3 _ e4
    subst e4
    exact ⟨⟨by omega, by omega⟩, fun _ => rfl⟩
  · injection e1 with e3 _ e4
    subst e4
    unfold maxLen at h2
    exact ⟨⟨h1, h2⟩, fun e => by rw [e3] at e; cases e⟩
theorem min_runM (x y : Int) : ∀ w, (Builtin.min_ #[3, 3] 3 #[Value.int IntKind.i64 x, .int .i64 y]).run Tryd.prog w = .ok (.int .i64 (min x y)) w := by
  intro w
  show (Builtin.min2 (.int .i64 x) (.int .i64 y)).run Tryd.prog w = _
  unfold Builtin.min2
  by_cases h : x ≤ y
  · rw [Int.min_eq_left h]
    by_cases h2 : x = y
    · subst h2
      simp
      try rfl
    · have h3 : x < y := by omega
      have h5 : ¬ y < x := by omega
      simp [h, h3, h5]
      try rfl
  · rw [Int.min_eq_right (by omega)]
    have h3 : ¬ x < y := by omega
    have h4 : y < x := by omega
    simp [h, h3, h4]
    try rfl
theorem frac_sameM (N D : Int) : ∀ w, (binOp .neq 44 (.agg #[Value.int IntKind.i64 N, .int .i64 D]) (.agg #[Value.int IntKind.i64 N, .int .i64 D])).run Tryd.prog w = .ok (.bool false) w := by
  intro w
  go_simp
/-- The numbers before t, zeros behind. -/
def idT (n t : Nat) : List Nat := (List.range n).map fun x => if x < t then x else 0
theorem idT_len (n t : Nat) : (idT n t).length = n := by unfold idT; rw [List.length_map, List.length_range]
theorem idT_zero (n : Nat) : idT n 0 = List.replicate n 0 := by
  unfold idT
  apply List.ext_getElem (by simp)
  intro i h1 h2
  simp
theorem idT_end (n : Nat) : idT n n = List.range n := by
  unfold idT
  apply List.ext_getElem (by simp)
  intro i h1 h2
  have : i < n := by simpa using h2
  simp [this]
theorem idT_set (n t : Nat) : (idT n t).set t t = idT n (t + 1) := by
  unfold idT
  apply List.ext_getElem (by simp)
  intro i h1 h2
  rw [List.getElem_set]
  simp only [List.getElem_map, List.getElem_range]
  by_cases e : t = i
  · subst e; rw [if_pos rfl, if_pos (Nat.lt_succ_self t)]
  · rw [if_neg e]
    by_cases c : i < t
    · rw [if_pos c, if_pos (by omega)]
    · rw [if_neg c, if_neg (by omega)]
theorem blk_atM {W : World} {b : Nat} {T : TypeId} {l : List Nat} (h : Blk W b T (natV l)) {i : Nat} (hi : i < l.length) : W.cell? ⟨b, i, none⟩ = some (.int .i64 ((l.getD i 0 : Nat) : Int)) := h.cell (natV_get hi)
theorem blk_setM {W : World} {b : Nat} {T : TypeId} {l : List Nat} (h : Blk W b T (natV l)) (i x : Nat) : Blk (W.setCell ⟨b, i, none⟩ (.int .i64 (x : Int))) b T (natV (l.set i x)) := by
  rw [← natV_set]; exact h.set i _
theorem tmodN (a b : Nat) : ((a : Int).tmod (b : Int)) = ((a % b : Nat) : Int) := by
  rw [Int.natCast_emod, Int.tmod_eq_emod_of_nonneg (by omega)]

theorem keep2M {F : Nat → Prop} {w w' : World} {p1 p2 : Addr} {v1 v2 : Value} (h1 : Hid (w.cell? p1 = some v1)) (h2 : Hid (w.cell? p2 = some v2)) (n1 : ¬ F p1.block) (n2 : ¬ F p2.block) (hb : Mod F w w') : w'.cell? p1 = some v1 ∧ w'.cell? p2 = some v2 ∧ Mod F w w' :=
  ⟨(hb.cell (World.block_lt_of_cell? w _ h1.out) n1).trans h1.out, (hb.cell (World.block_lt_of_cell? w _ h2.out) n2).trans h2.out, hb⟩

set_option maxHeartbeats 32000000 in
set_option maxRecDepth 100000 in
theorem minimax_law (w : World) (hT : Tab64 w) (a1 : Option Addr) (m1 p1 b1 o1 : Nat) (U V X : Nat → Nat) (h1 : LRow w a1 m1 b1 o1 U V X) (a2 : Option Addr) (m2 p2 b2 o2 : Nat) (A B Y : Nat → Nat) (h2 : LRow w a2 m2 b2 o2 A B Y) (th : Nat) (hth : th ≤ 4294967295) :
    Calls Tryd.prog 4 #[.slice a1 m1 p1, .slice a2 m2 p2, .int .u32 (th : Int)] w (RetB (.bool true) w) := by
  have H1 := Lib.hid h1
  have H2 := Lib.hid h2
  have HT := Lib.hid hT
  have hl1 := h1.lim
  have hl2 := h2.lim
  clear h1 h2 hT
  obtain ⟨sb, hsb⟩ : ∃ q, (decide (19 < m1) || decide (40 < m2)) = q := ⟨_, rfl⟩
  have HSB := Lib.hid hsb
  clear hsb
  go_enter Tryd.func4, Tryd.ntmps4
  go_upto_region 1 with fail
  go_cut [35] (fun s wx => s = .bool sb ∧ w = wx)
  case first =>
    have hq := HSB.out
    clear HSB
    by_cases c1 : 19 < m1
    · have t1 : decide (19 < m1) = true := decide_eq_true c1
      have t1' : decide ((19 : Int) < (m1 : Int)) = true := decide_eq_true (by omega)
      rw [t1, Bool.true_or] at hq
      subst hq
      go_wp2_with fail
      go_meet
      exact ⟨rfl, rfl⟩
    · have t1 : decide (19 < m1) = false := decide_eq_false c1
      have t1' : decide ((19 : Int) < (m1 : Int)) = false := decide_eq_false (by omega)
      rw [t1, Bool.false_or] at hq
      by_cases c2 : 40 < m2
      · have t2 : decide (40 < m2) = true := decide_eq_true c2
        have t2' : decide ((40 : Int) < (m2 : Int)) = true := decide_eq_true (by omega)
        rw [t2] at hq
        subst hq
        go_wp2_with fail
        go_meet
        exact ⟨rfl, rfl⟩
      · have t2 : decide (40 < m2) = false := decide_eq_false c2
        have t2' : decide ((40 : Int) < (m2 : Int)) = false := decide_eq_false (by omega)
        rw [t2] at hq
        subst hq
        go_wp2_with fail
        go_meet
        exact ⟨rfl, rfl⟩
  case rest =>
    obtain ⟨rfl, rfl⟩ := hcut
    cases sb with
    | true =>
      clear HSB
      go_wp2_with fail
      with_reducible refine (works_ok w).mono ?_
      rintro e w2 ⟨rfl, hb⟩
      have HB := Lib.hid hb
      clear hb
      go_wp2_with fail
      go_ret
      exact ⟨rfl, HB.out⟩
    | false =>
      have hm1 : m1 ≤ 19 := by have hq := HSB.out; rw [Bool.or_eq_false_iff] at hq; have := of_decide_eq_false hq.1; omega
      have hm2 : m2 ≤ 40 := by have hq := HSB.out; rw [Bool.or_eq_false_iff] at hq; have := of_decide_eq_false hq.2; omega
      clear HSB hl1 hl2
      obtain ⟨n, HN⟩ : ∃ n, Hid (m1 + 1 = n) := ⟨_, rfl⟩
      have hn : 1 ≤ n ∧ n ≤ 20 := by have := HN.out; omega
      have wn : IntKind.i64.wrap ((m1 : Int) + 1) = (n : Int) := by have := HN.out; rw [IntWalk.i64_in _ (by omega)]; omega
      go_wp2_with fail
      clear wn
      go_loopw [8, 9] (fun v s wr => ∃ i : Nat, i ≤ m1 ∧ s = .int .i64 (i : Int) ∧ wr.ownsRow 0 35 3 v i (edCells (mnUp U X i)) ∧ (∀ y, v.ownBlock = some y → w.heap.size ≤ y) ∧ Below w.heap.size w wr) (fun _ s _ => m1 - (intOf s).toNat)
      case atStart => exact ⟨0, Nat.zero_le _, rfl, World.ownsRow_nil _ _ _ _, fun y hy => (by cases hy), Below.refl _ _⟩
      case round =>
        obtain ⟨i, hi, rfl, hx, hxn, hb⟩ := hrel
        have HX := Lib.hid hx
        have HXN := Lib.hid hxn
        have HBR := Lib.hid hb
        clear hx hxn hb
        by_cases hil : i < m1
        · obtain ⟨vo, vc, rfl⟩ := owns_slice HX.out
          obtain ⟨i1, HI1⟩ : ∃ i1, Hid (i + 1 = i1) := ⟨_, rfl⟩
          obtain ⟨c0, _, c2⟩ := H1.out.cell i hil
          obtain ⟨l0, _, l2⟩ := H1.out.le i hil
          obtain rfl := H1.out.adr (by omega)
          have HSUC : Hid (mnUp U X (i + 1) = mnUp U X i ++ [⟨((i1 : Nat) : Int), ((U i % i1 : Nat) : Int), ((X i % 50 : Nat) : Int)⟩]) := by show _ = _; rw [← HI1.out]; rfl
          have hlen : (mnUp U X i).length = i := mnUp_len U X i
          generalize U i = u at *
          generalize X i = x at *
          have s1 : IntKind.i64.wrap ((i : Int) + 1) = (i1 : Int) := by have := HI1.out; rw [IntWalk.i64_in _ (by omega)]; omega
          have s2 : (u : Int).tmod (i1 : Int) = ((u % i1 : Nat) : Int) := tmodN u i1
          have s3 : (x : Int).tmod 50 = ((x % 50 : Nat) : Int) := tmodN x 50
          have hum : u % i1 < i1 := Nat.mod_lt _ (by have := HI1.out; omega)
          have hxm : x % 50 < 50 := Nat.mod_lt _ (by omega)
          generalize u % i1 = um at *
          generalize x % 50 = xm at *
          have s4 : IntKind.i64.wrap (u : Int) = (u : Int) := IntWalk.i64_in _ (by omega)
          have s5 : IntKind.i64.wrap (um : Int) = (um : Int) := IntWalk.i64_in _ (by have := HI1.out; omega)
          have s6 : IntKind.u32.wrap (xm : Int) = (xm : Int) := by unfold IntKind.wrap; simp [IntKind.signed, IntKind.bits]; omega
          have s7 : IntKind.i64.wrap (xm : Int) = (xm : Int) := IntWalk.i64_in _ (by omega)
          have t1 : (i : Int) < (m1 : Int) := by omega
          have t2 : (0 : Int) ≤ (i : Int) := by omega
          have t3 : ((i1 : Int) == 0) = false := by
            have h0 : (i1 : Int) ≠ 0 := by have := HI1.out; omega
            simpa using h0
          have t4 : ¬ i1 = 0 := by have := HI1.out; omega
          have hb1 : b1 < w.heap.size := World.block_lt_of_cell? w _ c0
          have HK : Hid (∀ W, Below w.heap.size w W → W.cell? ⟨b1, o1 + i * 3, none⟩ = some (.int .u8 (u : Int)) ∧ W.cell? ⟨b1, o1 + i * 3 + 2, none⟩ = some (.int .u32 (x : Int))) := fun W h => ⟨(h.cell hb1).trans c0, (h.cell hb1).trans c2⟩
          generalize hR : mnUp U X i = rI at *
          generalize hR' : mnUp U X (i + 1) = rI' at *
          have HR' := Lib.hid hR'
          generalize hC : edCells rI = rowI at *
          generalize hC' : edCells rI' = rowI' at *
          have HC' : Hid (rowI' = rowI ++ [.int .i64 (i1 : Int), .int .i64 (um : Int), .int .i64 (xm : Int)]) := by
            show _ = _
            rw [← hC', ← hC, HSUC.out, edCells_one]
          have HCC := Lib.hid hC'
          clear hR hR' hC hC' hlen HSUC c0 c2
          have HAP : Hid (∀ W, W = wr.drew.alloc (.cells #[.int .i64 (i1 : Int), .int .i64 (um : Int), .int .i64 (xm : Int)] 35) → W.ownsRow 0 35 3 (.slice vo i vc) i rowI ∧ (∀ j u, [Value.int .i64 (i1 : Int), .int .i64 (um : Int), .int .i64 (xm : Int)][j]? = some u → W.cell? ((⟨wr.heap.size, 0, none⟩ : Addr).add j) = some u) ∧
              ∀ v' w', w'.ownsRow 0 35 3 v' (i + 1) (rowI ++ [.int .i64 (i1 : Int), .int .i64 (um : Int), .int .i64 (xm : Int)]) → W.grownBy w' (Value.slice vo i vc).ownBlock → (∀ k, v'.ownBlock = some k → (Value.slice vo i vc).ownBlock = some k ∨ W.heap.size ≤ k) → StAp w wr 35 3 (i + 1) [.int .i64 (i1 : Int), .int .i64 (um : Int), .int .i64 (xm : Int)] rowI' [.slice (some ⟨wr.heap.size, 0, none⟩) 1 1, v'] w') := fun W hW => by
            have hd : Below wr.heap.size wr wr.drew := (Below.refl _ _).drew
            have ho := (owns_mod HX.out (Mod.of_below (F := fun _ => False) hd) (fun _ _ h => h)).alloc (.cells #[.int .i64 (i1 : Int), .int .i64 (um : Int), .int .i64 (xm : Int)] 35)
            have hn := news_new wr.drew 35 [.int .i64 (i1 : Int), .int .i64 (um : Int), .int .i64 (xm : Int)]
            have hwr := HBR.out.size
            subst hW
            refine ⟨ho, hn, fun v' w' h1 h2 h3 => ⟨by rw [HC'.out]; exact h1, fun y hy => ?_, ?_⟩⟩
            · rcases h3 y hy with e | e
              · exact HXN.out y e
              · have : wr.heap.size + 1 ≤ y := by simpa using e
                omega
            · exact ((HBR.out.drew).alloc (by simpa using hwr) _).trans (grown_below h2 (fun k hk => HXN.out k hk) (by simp; omega))
          go_wp2_with fail
          -- ONE<
          refine wp_region_late 20 (by kernel_rfl) (by kernel_rfl) (by kernel_rfl) (by kernel_rfl) (by kernel_rfl) (fun q_ v_ => match q_ with | 0 => v_ = .slice vo i vc | 1 => v_ = .int .i64 (i : Int) | 2 => v_ = .int .i64 (i1 : Int) | 3 => v_ = .slice (some ⟨b1, o1, none⟩) m1 p1 | 4 => v_ = .int .i64 (i : Int) | 5 => v_ = .pointer (some ⟨b1, o1 + i * 3, none⟩) | 6 => v_ = .pointer (some ⟨b1, o1 + i * 3, none⟩) | 7 => v_ = .int .u8 (u : Int) | 8 => v_ = .int .i64 (u : Int) | 9 => v_ = .int .i64 (i : Int) | 10 => v_ = .int .i64 (i1 : Int) | 11 => v_ = .int .i64 (um : Int) | 12 => v_ = .slice (some ⟨b1, o1, none⟩) m1 p1 | 13 => v_ = .int .i64 (i : Int) | 14 => v_ = .pointer (some ⟨b1, o1 + i * 3, none⟩) | 15 => v_ = .pointer (some ⟨b1, o1 + i * 3 + 2, none⟩) | 16 => v_ = .int .u32 (x : Int) | 17 => v_ = .int .u32 (xm : Int) | 18 => v_ = .int .i64 (xm : Int) | 19 => v_ = .agg #[.int .i64 (i1 : Int), .int .i64 (um : Int), .int .i64 (xm : Int)] | _ => True) (StAp w wr 35 3 (i + 1) [.int .i64 (i1 : Int), .int .i64 (um : Int), .int .i64 (xm : Int)] rowI') rfl ?read ?tail ?fin
          case read =>
            intro W ys o_i o AA hin hst hnd hlt hev hdep ho
            obtain ⟨c0, c2⟩ := HK.out W (StAp.bel hst HBR.out)
            have hcs : o_i = 0 ∨ o_i = 1 ∨ o_i = 2 ∨ o_i = 3 ∨ o_i = 4 ∨ o_i = 5 ∨ o_i = 6 ∨ o_i = 7 ∨ o_i = 8 ∨ o_i = 9 ∨ o_i = 10 ∨ o_i = 11 ∨ o_i = 12 ∨ o_i = 13 ∨ o_i = 14 ∨ o_i = 15 ∨ o_i = 16 ∨ o_i = 17 ∨ o_i = 18 ∨ o_i = 19 := by omega
            rcases hcs with rfl | rfl | rfl | rfl | rfl | rfl | rfl | rfl | rfl | rfl | rfl | rfl | rfl | rfl | rfl | rfl | rfl | rfl | rfl | rfl
            · cases ho
              have hl : ys.length ≤ 1 := by
                apply Classical.byContradiction
                intro hc
                exact hnd 21 _ (by omega) (by omega) rfl ⟨0, .data⟩ (by simp) (by rfl) rfl
              have f8 : AA.eval (.tmp 8) = .slice vo i vc := hlt 8 22 (by omega) (by kernel_rfl)
              refine ⟨wanted_free rfl, wp_valD (v := .slice vo i vc) (w' := W) (by simp only [execOp, f8]; simp [go_sem, f8, c0, c2, s1, s2, s3, s4, s5, s6, s7, t1, t2, t3, t4]) ⟨_, rfl, rfl, rfl⟩⟩
            · cases ho
              have f9 : AA.eval (.tmp 9) = .int .i64 (i : Int) := hev 9 (by kernel_rfl)
              refine ⟨wanted_free rfl, wp_valD (v := .int .i64 (i : Int)) (w' := W) (by simp only [execOp, f9]; simp [go_sem, f9, c0, c2, s1, s2, s3, s4, s5, s6, s7, t1, t2, t3, t4]) ⟨_, rfl, rfl, rfl⟩⟩
            · cases ho
              have f47 : AA.eval (.tmp 47) = .int .i64 (i : Int) := hdep ⟨1, .data⟩ 47 (by simp) (by rfl) rfl (by simp)
              refine ⟨wanted_free rfl, wp_valD (v := .int .i64 (i1 : Int)) (w' := W) (by simp only [execOp, f47]; simp [go_sem, f47, c0, c2, s1, s2, s3, s4, s5, s6, s7, t1, t2, t3, t4]) ⟨_, rfl, rfl, rfl⟩⟩
            · cases ho
              have f0 : AA.eval (.tmp 0) = .slice (some ⟨b1, o1, none⟩) m1 p1 := hev 0 (by kernel_rfl)
              refine ⟨wanted_free rfl, wp_valD (v := .slice (some ⟨b1, o1, none⟩) m1 p1) (w' := W) (by simp only [execOp, f0]; simp [go_sem, f0, c0, c2, s1, s2, s3, s4, s5, s6, s7, t1, t2, t3, t4]) ⟨_, rfl, rfl, rfl⟩⟩
            · cases ho
              have f9 : AA.eval (.tmp 9) = .int .i64 (i : Int) := hev 9 (by kernel_rfl)
              refine ⟨wanted_free rfl, wp_valD (v := .int .i64 (i : Int)) (w' := W) (by simp only [execOp, f9]; simp [go_sem, f9, c0, c2, s1, s2, s3, s4, s5, s6, s7, t1, t2, t3, t4]) ⟨_, rfl, rfl, rfl⟩⟩
            · cases ho
              have f49 : AA.eval (.tmp 49) = .slice (some ⟨b1, o1, none⟩) m1 p1 := hdep ⟨3, .data⟩ 49 (by simp) (by rfl) rfl (by simp)
              have f50 : AA.eval (.tmp 50) = .int .i64 (i : Int) := hdep ⟨4, .data⟩ 50 (by simp) (by rfl) rfl (by simp)
              refine ⟨wanted_free rfl, wp_valD (v := .pointer (some ⟨b1, o1 + i * 3, none⟩)) (w' := W) (by simp only [execOp, f49, f50]; simp [go_sem, f49, f50, c0, c2, s1, s2, s3, s4, s5, s6, s7, t1, t2, t3, t4]) ⟨_, rfl, rfl, rfl⟩⟩
            · cases ho
              have f51 : AA.eval (.tmp 51) = .pointer (some ⟨b1, o1 + i * 3, none⟩) := hdep ⟨5, .data⟩ 51 (by simp) (by rfl) rfl (by simp)
              refine ⟨wanted_free rfl, wp_valD (v := .pointer (some ⟨b1, o1 + i * 3, none⟩)) (w' := W) (by simp only [execOp, f51]; simp [go_sem, f51, c0, c2, s1, s2, s3, s4, s5, s6, s7, t1, t2, t3, t4]) ⟨_, rfl, rfl, rfl⟩⟩
            · cases ho
              have f52 : AA.eval (.tmp 52) = .pointer (some ⟨b1, o1 + i * 3, none⟩) := hdep ⟨6, .data⟩ 52 (by simp) (by rfl) rfl (by simp)
              refine ⟨wanted_free rfl, wp_valD (v := .int .u8 (u : Int)) (w' := W) (by simp only [execOp, f52]; simp [go_sem, f52, c0, c2, s1, s2, s3, s4, s5, s6, s7, t1, t2, t3, t4]) ⟨_, rfl, rfl, rfl⟩⟩
            · cases ho
              have f53 : AA.eval (.tmp 53) = .int .u8 (u : Int) := hdep ⟨7, .data⟩ 53 (by simp) (by rfl) rfl (by simp)
              refine ⟨wanted_free rfl, wp_valD (v := .int .i64 (u : Int)) (w' := W) (by simp only [execOp, f53]; simp [go_sem, f53, c0, c2, s1, s2, s3, s4, s5, s6, s7, t1, t2, t3, t4]) ⟨_, rfl, rfl, rfl⟩⟩
            · cases ho
              have f9 : AA.eval (.tmp 9) = .int .i64 (i : Int) := hev 9 (by kernel_rfl)
              refine ⟨wanted_free rfl, wp_valD (v := .int .i64 (i : Int)) (w' := W) (by simp only [execOp, f9]; simp [go_sem, f9, c0, c2, s1, s2, s3, s4, s5, s6, s7, t1, t2, t3, t4]) ⟨_, rfl, rfl, rfl⟩⟩
            · cases ho
              have f55 : AA.eval (.tmp 55) = .int .i64 (i : Int) := hdep ⟨9, .data⟩ 55 (by simp) (by rfl) rfl (by simp)
              refine ⟨wanted_free rfl, wp_valD (v := .int .i64 (i1 : Int)) (w' := W) (by simp only [execOp, f55]; simp [go_sem, f55, c0, c2, s1, s2, s3, s4, s5, s6, s7, t1, t2, t3, t4]) ⟨_, rfl, rfl, rfl⟩⟩
            · cases ho
              have f54 : AA.eval (.tmp 54) = .int .i64 (u : Int) := hdep ⟨8, .data⟩ 54 (by simp) (by rfl) rfl (by simp)
              have f56 : AA.eval (.tmp 56) = .int .i64 (i1 : Int) := hdep ⟨10, .data⟩ 56 (by simp) (by rfl) rfl (by simp)
              refine ⟨wanted_free rfl, wp_valD (v := .int .i64 (um : Int)) (w' := W) (by simp only [execOp, f54, f56]; simp [go_sem, f54, f56, c0, c2, s1, s2, s3, s4, s5, s6, s7, t1, t2, t3, t4]) ⟨_, rfl, rfl, rfl⟩⟩
            · cases ho
              have f0 : AA.eval (.tmp 0) = .slice (some ⟨b1, o1, none⟩) m1 p1 := hev 0 (by kernel_rfl)
              refine ⟨wanted_free rfl, wp_valD (v := .slice (some ⟨b1, o1, none⟩) m1 p1) (w' := W) (by simp only [execOp, f0]; simp [go_sem, f0, c0, c2, s1, s2, s3, s4, s5, s6, s7, t1, t2, t3, t4]) ⟨_, rfl, rfl, rfl⟩⟩
            · cases ho
              have f9 : AA.eval (.tmp 9) = .int .i64 (i : Int) := hev 9 (by kernel_rfl)
              refine ⟨wanted_free rfl, wp_valD (v := .int .i64 (i : Int)) (w' := W) (by simp only [execOp, f9]; simp [go_sem, f9, c0, c2, s1, s2, s3, s4, s5, s6, s7, t1, t2, t3, t4]) ⟨_, rfl, rfl, rfl⟩⟩
            · cases ho
              have f58 : AA.eval (.tmp 58) = .slice (some ⟨b1, o1, none⟩) m1 p1 := hdep ⟨12, .data⟩ 58 (by simp) (by rfl) rfl (by simp)
              have f59 : AA.eval (.tmp 59) = .int .i64 (i : Int) := hdep ⟨13, .data⟩ 59 (by simp) (by rfl) rfl (by simp)
              refine ⟨wanted_free rfl, wp_valD (v := .pointer (some ⟨b1, o1 + i * 3, none⟩)) (w' := W) (by simp only [execOp, f58, f59]; simp [go_sem, f58, f59, c0, c2, s1, s2, s3, s4, s5, s6, s7, t1, t2, t3, t4]) ⟨_, rfl, rfl, rfl⟩⟩
            · cases ho
              have f60 : AA.eval (.tmp 60) = .pointer (some ⟨b1, o1 + i * 3, none⟩) := hdep ⟨14, .data⟩ 60 (by simp) (by rfl) rfl (by simp)
              refine ⟨wanted_free rfl, wp_valD (v := .pointer (some ⟨b1, o1 + i * 3 + 2, none⟩)) (w' := W) (by simp only [execOp, f60]; simp [go_sem, f60, c0, c2, s1, s2, s3, s4, s5, s6, s7, t1, t2, t3, t4]) ⟨_, rfl, rfl, rfl⟩⟩
            · cases ho
              have f61 : AA.eval (.tmp 61) = .pointer (some ⟨b1, o1 + i * 3 + 2, none⟩) := hdep ⟨15, .data⟩ 61 (by simp) (by rfl) rfl (by simp)
              refine ⟨wanted_free rfl, wp_valD (v := .int .u32 (x : Int)) (w' := W) (by simp only [execOp, f61]; simp [go_sem, f61, c0, c2, s1, s2, s3, s4, s5, s6, s7, t1, t2, t3, t4]) ⟨_, rfl, rfl, rfl⟩⟩
            · cases ho
              have f62 : AA.eval (.tmp 62) = .int .u32 (x : Int) := hdep ⟨16, .data⟩ 62 (by simp) (by rfl) rfl (by simp)
              refine ⟨wanted_free rfl, wp_valD (v := .int .u32 (xm : Int)) (w' := W) (by simp only [execOp, f62]; simp [go_sem, f62, c0, c2, s1, s2, s3, s4, s5, s6, s7, t1, t2, t3, t4]) ⟨_, rfl, rfl, rfl⟩⟩
            · cases ho
              have f63 : AA.eval (.tmp 63) = .int .u32 (xm : Int) := hdep ⟨17, .data⟩ 63 (by simp) (by rfl) rfl (by simp)
              refine ⟨wanted_free rfl, wp_valD (v := .int .i64 (xm : Int)) (w' := W) (by simp only [execOp, f63]; simp [go_sem, f63, c0, c2, s1, s2, s3, s4, s5, s6, s7, t1, t2, t3, t4]) ⟨_, rfl, rfl, rfl⟩⟩
            · cases ho
              have f48 : AA.eval (.tmp 48) = .int .i64 (i1 : Int) := hdep ⟨2, .data⟩ 48 (by simp) (by rfl) rfl (by simp)
              have f57 : AA.eval (.tmp 57) = .int .i64 (um : Int) := hdep ⟨11, .data⟩ 57 (by simp) (by rfl) rfl (by simp)
              have f64 : AA.eval (.tmp 64) = .int .i64 (xm : Int) := hdep ⟨18, .data⟩ 64 (by simp) (by rfl) rfl (by simp)
              have g48 : AA.tmps[48]?.getD undef = .int .i64 (i1 : Int) := by simpa [Act.eval] using f48
              have g57 : AA.tmps[57]?.getD undef = .int .i64 (um : Int) := by simpa [Act.eval] using f57
              have g64 : AA.tmps[64]?.getD undef = .int .i64 (xm : Int) := by simpa [Act.eval] using f64
              refine ⟨wanted_free rfl, wp_valD (v := .agg #[.int .i64 (i1 : Int), .int .i64 (um : Int), .int .i64 (xm : Int)]) (w' := W) (by simp only [execOp, f48, f57, f64, g48, g57, g64]; simp [go_sem, f48, f57, f64, g48, g57, g64, c0, c2, s1, s2, s3, s4, s5, s6, s7, t1, t2, t3, t4]) ⟨_, rfl, rfl, rfl⟩⟩
          case tail =>
            intro W ys o AA hst ho hlt hev hdep
            match ys, hst, ho, hdep with
            | [], hst, ho, hdep =>
              cases ho
              have fb : AA.eval (.tmp 65) = .agg #[.int .i64 (i1 : Int), .int .i64 (um : Int), .int .i64 (xm : Int)] := (hdep ⟨19, .data⟩ 65 (by simp) (by rfl) rfl (by simp)).1 (by decide)
              have gb : AA.tmps[65]?.getD undef = .agg #[.int .i64 (i1 : Int), .int .i64 (um : Int), .int .i64 (xm : Int)] := by simpa [Act.eval] using fb
              have e := hst
              unfold StAp at e
              subst e
              exact ⟨wanted_free rfl, wp_valD (v := .slice (some ⟨wr.heap.size, 0, none⟩) 1 1) (w' := wr.drew.alloc (.cells #[.int .i64 (i1 : Int), .int .i64 (um : Int), .int .i64 (xm : Int)] 35)) (by simp only [execOp]; simp [go_sem, gb]) ⟨_, rfl, ⟨rfl, rfl⟩⟩⟩
            | [y], hst, ho, hdep =>
              cases ho
              obtain ⟨rfl, hW⟩ := hst
              have fx : AA.eval (.tmp 46) = .slice vo i vc := (hdep ⟨0, .data⟩ 46 (by simp) (by rfl) rfl (by simp)).1 (by decide)
              have fy : AA.eval (.tmp 66) = .slice (some ⟨wr.heap.size, 0, none⟩) 1 1 := by
                have := (hdep ⟨20, .data⟩ 66 (by simp) (by rfl) rfl (by simp)).2 0 rfl
                injection this with this
                exact this.symm
              refine ⟨wanted_free rfl, ?_⟩
              obtain ⟨h1, h2, h3⟩ := HAP.out W hW
              exact wp_apD 35 (.agg #[.int .i64 0, .int .i64 0, .int .i64 0]) 3 24 Tryd.underlying22 Tryd.infoEdge rfl (by decide) _ i _ fx h1 ⟨wr.heap.size, 0, none⟩ 1 1 [.int .i64 (i1 : Int), .int .i64 (um : Int), .int .i64 (xm : Int)] fy rfl h2 (by simp [Value.oneCell']) (by unfold maxLen; omega) (by omega) (fun v' w' a1 a2 a3 => ⟨v', rfl, h3 v' w' a1 a2 a3⟩)
            | [y, z], hst, ho, hdep =>
              cases ho
              have fz : AA.eval (.tmp 67) = z := by
                have := (hdep ⟨21, .data⟩ 67 (by simp) (by rfl) rfl (by simp)).2 1 rfl
                injection this with this
                exact this.symm
              exact ⟨wanted_free rfl, wp_valD (v := z) (w' := W) (by simp only [execOp, fz]; simp [go_sem]) ⟨_, rfl, ⟨hst, rfl⟩⟩⟩
            | [y, z, p], hst, ho, hdep => cases ho
            | _ :: _ :: _ :: _ :: _, hst, ho, hdep => cases hst
          case fin =>
            intro xs W hst hF
            obtain ⟨⟨ho6, hn6, hb6⟩, hp6⟩ := (show StAp w wr 35 3 (i + 1) [.int .i64 (i1 : Int), .int .i64 (um : Int), .int .i64 (xm : Int)] rowI' [xs 20, xs 21, xs 22] W from hst)
            have HO6 := Lib.hid ho6
            have HN6 := Lib.hid hn6
            have HB6 := Lib.hid hb6
            clear hst hF ho6 hn6 hb6
            simp only [putAll, Nat.zero_add, Nat.reduceAdd]
            rw [hp6]
            clear hp6
            generalize xs 0 = z0 at *
            generalize xs 1 = z1 at *
            generalize xs 2 = z2 at *
            generalize xs 3 = z3 at *
            generalize xs 4 = z4 at *
            generalize xs 5 = z5 at *
            generalize xs 6 = z6 at *
            generalize xs 7 = z7 at *
            generalize xs 8 = z8 at *
            generalize xs 9 = z9 at *
            generalize xs 10 = z10 at *
            generalize xs 11 = z11 at *
            generalize xs 12 = z12 at *
            generalize xs 13 = z13 at *
            generalize xs 14 = z14 at *
            generalize xs 15 = z15 at *
            generalize xs 16 = z16 at *
            generalize xs 17 = z17 at *
            generalize xs 18 = z18 at *
            generalize xs 19 = z19 at *
            generalize xs 20 = z20 at *
            generalize xs 21 = z21 at *
            clear xs
          -- ONE>
            go_wp2_with fail
            go_roundw
            case rel => exact ⟨i1, by have := HI1.out; omega, rfl, by rw [HI1.out] at HO6 HR'; rw [HR'.out, HCC.out]; exact HO6.out, HN6.out, HB6.out⟩
            case measure => have := HI1.out; simp [intOf]; omega
        · obtain rfl : i = m1 := by omega
          obtain ⟨lu, HLU⟩ : ∃ lu, Hid (mnUp U X i = lu) := ⟨_, rfl⟩
          have HLN : Hid (lu.length = i) := by show _ = _; rw [← HLU.out]; exact mnUp_len U X i
          rw [HLU.out] at HX
          go_wp2_with fail
          go_loopw [8, 10] (fun v s wr => ∃ t : Nat, t ≤ m2 ∧ s = .int .i64 (t : Int) ∧ wr.ownsRow 0 35 3 v (mnMo n A B Y lu t).length (edCells (mnMo n A B Y lu t)) ∧ (∀ y, v.ownBlock = some y → w.heap.size ≤ y) ∧ Below w.heap.size w wr) (fun _ s _ => m2 - (intOf s).toNat)
          case atStart => exact ⟨0, Nat.zero_le _, rfl, by show World.ownsRow _ _ _ _ _ lu.length (edCells lu); rw [HLN.out]; exact HX.out, HXN.out, HBR.out⟩
          case round =>
            obtain ⟨t, ht, rfl, hx, hxn, hb⟩ := hrel
            clear HX HXN HBR
            have HX := Lib.hid hx
            have HXN := Lib.hid hxn
            have HBR := Lib.hid hb
            clear hx hxn hb
            by_cases htl : t < m2
            · have hstep : mnMo n A B Y lu (t + 1) = if A t % n = B t % n then mnMo n A B Y lu t else mnMo n A B Y lu t ++ [⟨((A t % n : Nat) : Int), ((B t % n : Nat) : Int), ((Y t % 50 : Nat) : Int)⟩] := rfl
              have hle : (mnMo n A B Y lu t).length ≤ i + t := by have := mnMo_len n A B Y lu t; rw [HLN.out] at this; exact this
              obtain ⟨L, HL⟩ : ∃ L, Hid ((mnMo n A B Y lu t).length = L) := ⟨_, rfl⟩
              rw [HL.out] at HX hle
              obtain ⟨vo, vc, rfl⟩ := owns_slice HX.out
              have hRW := H2.out.below HBR.out
              obtain ⟨c0, c1, c2⟩ := hRW.cell t htl
              obtain ⟨l0, l1, l2⟩ := hRW.le t htl
              obtain rfl := hRW.adr (by omega)
              have HST := Lib.hid hstep
              generalize A t = q0 at *
              generalize B t = q1 at *
              generalize Y t = x at *
              have s0 : (q0 : Int).tmod (n : Int) = ((q0 % n : Nat) : Int) := tmodN q0 n
              have s1 : (q1 : Int).tmod (n : Int) = ((q1 % n : Nat) : Int) := tmodN q1 n
              have s3 : (x : Int).tmod 50 = ((x % 50 : Nat) : Int) := tmodN x 50
              have hu : q0 % n < n := Nat.mod_lt _ (by omega)
              have hv : q1 % n < n := Nat.mod_lt _ (by omega)
              have hxm : x % 50 < 50 := Nat.mod_lt _ (by omega)
              generalize q0 % n = u at *
              generalize q1 % n = v at *
              generalize x % 50 = xm at *
              have w0 : IntKind.i64.wrap (q0 : Int) = (q0 : Int) := IntWalk.i64_in _ (by omega)
              have w1 : IntKind.i64.wrap (q1 : Int) = (q1 : Int) := IntWalk.i64_in _ (by omega)
              have w2 : IntKind.i64.wrap (u : Int) = (u : Int) := IntWalk.i64_in _ (by omega)
              have w3 : IntKind.i64.wrap (v : Int) = (v : Int) := IntWalk.i64_in _ (by omega)
              have t1 : (t : Int) < (m2 : Int) := by omega
              have t2 : (0 : Int) ≤ (t : Int) := by omega
              have t3 : ((n : Int) == 0) = false := by
                have h0 : (n : Int) ≠ 0 := by omega
                simpa using h0
              have t4 : ¬ n = 0 := by omega
              clear hRW hstep htl
              go_wp2_with fail
              go_quiet (fail)
              have HX2 : Hid ((wr.drewN nq).ownsRow 0 35 3 (.slice vo L vc) L (edCells (mnMo n A B Y lu t))) := HX.out
              have HB2 := Lib.hid (bel_drewN HBR.out nq)
              replace c2 : (wr.drewN nq).cell? ⟨b2, o2 + t * 3 + 2, none⟩ = some (.int .u32 (x : Int)) := c2
              clear c0 c1 s0 s1 w0 w1 w2 w3 t3 t4 HX HBR
              generalize wr.drewN nq = w4 at *
              by_cases huv : u = v
              · have tu : ((u : Int) != (v : Int)) = false := by simp [huv]
                have HEQ : Hid (mnMo n A B Y lu (t + 1) = mnMo n A B Y lu t) := HST.out.trans (if_pos huv)
                clear huv
                go_wp2_with fail
                go_roundw
                case rel => exact ⟨t + 1, by omega, by go_num, by rw [HEQ.out, HL.out]; exact HX2.out, HXN.out, HB2.out⟩
                case measure => simp [intOf]; omega
              · have tu : ((u : Int) != (v : Int)) = true := by simp; omega
                have HEQ : Hid (mnMo n A B Y lu (t + 1) = mnMo n A B Y lu t ++ [⟨(u : Int), (v : Int), (xm : Int)⟩]) := HST.out.trans (if_neg huv)
                have s6 : IntKind.u32.wrap (xm : Int) = (xm : Int) := by unfold IntKind.wrap; simp [IntKind.signed, IntKind.bits]; omega
                have s7 : IntKind.i64.wrap (xm : Int) = (xm : Int) := IntWalk.i64_in _ (by omega)
                have HOW := Lib.hid (HX2.out.alloc (.cells #[.int .i64 u, .int .i64 v, .int .i64 (xm : Int)] 35))
                have HNW := Lib.hid (news_new w4 35 [.int .i64 u, .int .i64 v, .int .i64 (xm : Int)])
                clear huv
                go_wp2_with (at_builtin; apply keepIt)
                apply Lib.hid
                refine wpList_appendB 35 (.agg #[.int .i64 0, .int .i64 0, .int .i64 0]) 3 24 Tryd.underlying22 Tryd.infoEdge rfl (by decide) _ L _ rfl HOW.out ⟨w4.heap.size, 0, none⟩ 1 1 [.int .i64 u, .int .i64 v, .int .i64 (xm : Int)] rfl rfl HNW.out (by simp [Value.oneCell']) (by unfold maxLen; omega) (by omega) ?_
                intro v6 w6 ho6 hg6 hn6
                rw [← HL.out] at ho6
                obtain ⟨hv6, hvn6, hb6⟩ := app_edgeM (x := ⟨(u : Int), (v : Int), (xm : Int)⟩) HXN.out HB2.out.size ho6 hg6 hn6
                rw [← HEQ.out] at hv6
                have HV6 := Lib.hid hv6
                have HN6 := Lib.hid hvn6
                have HB6 := Lib.hid (HB2.out.trans hb6)
                clear ho6 hg6 hn6 hv6 hvn6 hb6
                go_wp2_with fail
                go_roundw
                case rel => exact ⟨t + 1, by omega, by go_num, HV6.out, HN6.out, HB6.out⟩
                case measure => simp [intOf]; omega
            · obtain rfl : t = m2 := by omega
              have HOK : Hid (MnOk n (mnMo n A B Y lu t)) := by
                rw [← HN.out, ← HLU.out]; exact mn_ok U X A B Y hm1 hm2
              obtain ⟨l, HLL⟩ : ∃ l, Hid (mnMo n A B Y lu t = l) := ⟨_, rfl⟩
              rw [HLL.out] at HX HOK
              clear HLU HLN htl H1 H2
              -- TWO<
              obtain ⟨ao, cap, bl, rfl, he, hkk⟩ := ERow.of_owns HX.out
              obtain ⟨m, HM⟩ : ∃ m, Hid (l.length = m) := ⟨_, rfl⟩
              have hm60 : m ≤ 60 := by rw [← HM.out]; exact HOK.out.len
              have hnil : ao = none → cap = 0 := (owns_lims HX.out).2
              rw [HM.out] at he ⊢
              have HE := Lib.hid he
              have HNIL := Lib.hid hnil
              have HTR := Lib.hid (HT.out.below HBR.out)
              clear he hnil hkk HX HXN HT
              go_wp2_with fail
              with_reducible refine (matrix_ok wr HTR.out n ao m cap bl 0 l HE.out (by omega) HNIL.out (by omega)).mono ?_
              rintro e w3 ⟨_, hok, hb⟩
              obtain ⟨a3, c3, b3, rfl, hr3⟩ := hok HOK.out.mat
              rw [Int.toNat_natCast] at hr3 ⊢
              have HB3 := Lib.hid (bel_then HBR.out hb)
              have HE3 := Lib.hid (HE.out.below hb)
              have HR3 := Lib.hid hr3
              have HCK := Lib.hid HOK.out.check
              have HFO := Lib.hid HOK.out.forest
              clear hok hb hr3 HBR HE HTR
              obtain ⟨d, HD⟩ : ∃ d, Hid (fwK n l n = d) := ⟨_, rfl⟩
              obtain ⟨nn, HNN⟩ : ∃ q, Hid (n * n = q) := ⟨_, rfl⟩
              have hnn : n * n ≤ 400 := Nat.mul_le_mul hn.2 hn.2
              have hnn0 : 0 < n * n := Nat.mul_pos (by omega) (by omega)
              rw [HNN.out] at HR3 hnn hnn0 ⊢
              rw [HD.out] at HR3 HCK HFO
              have ha3 := HR3.out.adr hnn0
              subst ha3
              go_wp2_with fail
              with_reducible refine (run_ok w3 n 1 (.inl rfl) (some ⟨b3, 0, none⟩) nn c3 b3 0 d HR3.out (fun h => by cases h) HNN.out.symm (by omega) HCK.out).mono ?_
              rintro e w4 ⟨v4, rfl, ho4, hb4, _⟩
              have HB4 := Lib.hid (bel_then HB3.out hb4)
              have HE4 := Lib.hid (HE3.out.below hb4)
              obtain ⟨n1, HN1⟩ : ∃ n1, Hid (n - 1 = n1) := ⟨_, rfl⟩
              have HN1' : Hid (n = n1 + 1) := by show _ = _; have := HN1.out; omega
              obtain ⟨ao4, cap4, b4, rfl, hr4⟩ := row_mergesM ho4
              have hlim4 := owns_lims ho4
              rw [HN1.out] at hr4 hlim4 ⊢
              have HR4 := Lib.hid hr4
              have HL4 := Lib.hid hlim4
              clear ho4 hb4 hr4 hlim4 HB3 HE3 HR3
              go_wp2_with fail
              with_reducible refine (forest_ok w4 n ao m cap bl 0 l HE4.out (by omega) HNIL.out (by omega)).mono ?_
              rintro e w5 ⟨_, hok, hb5⟩
              obtain ⟨v5, rfl, ho5, _⟩ := hok HOK.out.gok.err
              rw [Int.toNat_natCast] at ho5
              have hfl : (forL n l).length = n1 := by have := HFO.out.1; unfold FN at this; have := HN1.out; omega
              have HFE : Hid (∀ i, i < n1 → (forL n l).getD i 0 = fe n l i) := fun i _ => rfl
              have HFM : Hid (∀ i, i < n1 → fe n l i < m) := fun i hi => by
                rw [← HM.out]
                exact forL_mem (n := n) (by
                  unfold fe
                  rw [List.getD_eq_getElem?_getD, List.getElem?_eq_getElem (by omega)]
                  exact List.getElem_mem _)
              rw [hfl] at ho5
              obtain ⟨ao5, cap5, rfl⟩ := owns_slice ho5
              have HO5 := Lib.hid ho5
              have HB5 := Lib.hid (bel_then HB4.out hb5)
              have HE5 := Lib.hid (HE4.out.below hb5)
              have HR5 := Lib.hid (HR4.out.below hb5)
              have HFL := Lib.hid hfl
              clear ho5 hok hb5 hfl HB4 HE4 HR4
              have wn1 : IntKind.i64.wrap ((n : Int) - 1) = (n1 : Int) := by have := HN1.out; rw [IntWalk.i64_in _ (by omega)]; omega
              have tn1 : ((n1 : Int) != (n1 : Int)) = false := by simp
              have hn1 : n1 ≤ 19 := by have := HN1.out; omega
              obtain ⟨TH, HTH⟩ : ∃ q, Hid (th % 60 = q) := ⟨_, rfl⟩
              have hTH : TH < 60 := by rw [← HTH.out]; exact Nat.mod_lt _ (by omega)
              have r1 : (th : Int).tmod 60 = (TH : Int) := by rw [← HTH.out]; exact tmodN th 60
              have r1' : (th : Int) % 60 = (TH : Int) := by have := HTH.out; omega
              have r2 : IntKind.u32.wrap (TH : Int) = (TH : Int) := by unfold IntKind.wrap; simp [IntKind.signed, IntKind.bits]; omega
              have r3 : IntKind.i64.wrap (TH : Int) = (TH : Int) := IntWalk.i64_in _ (by omega)
              go_wp2_with fail
              go_loopw [19, 20] (fun s t wr => ∃ i : Nat, i ≤ n1 ∧ t = .int .i64 (i : Int) ∧ s = .int .i64 ((mnC n d TH i : Nat) : Int) ∧ Below w5.heap.size w5 wr) (fun _ t _ => n1 - (intOf t).toNat)
              case atStart => exact ⟨0, Nat.zero_le _, rfl, rfl, Below.refl _ _⟩
              case round =>
                obtain ⟨i, hi, rfl, rfl, hb⟩ := hrel
                have HBW := Lib.hid hb
                clear hb
                have hcl := mnC_le n d TH i
                by_cases hil : i < n1
                · have HR6 := HR5.out.below HBW.out
                  have HE6 := HE5.out.below HBW.out
                  have hfm := HFM.out i hil
                  obtain ⟨g5, cp5, hv5, _, _, _, hcell5, _⟩ := owns_form (owns_mod HO5.out (Mod.of_below (F := fun _ => False) HBW.out) (fun _ _ h => h)) (by omega)
                  injection hv5 with e5 _ e5'
                  subst e5'
                  subst e5
                  have cF := hcell5 i (by omega)
                  rw [natV_get (by rw [HFL.out]; exact hil), HFE.out i hil] at cF
                  obtain ⟨_, _, cN, cD, _⟩ := HR6.cell i hil
                  have haM := HR6.adr (by omega)
                  obtain ⟨_, _, cW⟩ := HE6.cell _ hfm
                  have haE := HE6.adr (by omega)
                  subst haM
                  subst haE
                  have hNW : ((runL n 1 d).getD i mg0).N = wI l (fe n l i) := HFO.out.2 i (by have := HN1'.out; omega)
                  have hD1 : ((runL n 1 d).getD i mg0).D = 1 := single_den (DOk.of_check HCK.out) (by have := HN1'.out; omega)
                  have hW : (EA l (fe n l i)).W = wI l (fe n l i) := rfl
                  have hHG : hg n d i = wI l (fe n l i) := hNW
                  have HSUC : Hid (mnC n d TH (i + 1) = if hg n d i ≤ TH then mnC n d TH i + 1 else mnC n d TH i) := mnC_succ n d TH i
                  rw [hHG] at HSUC
                  rw [hNW] at cN
                  rw [hD1] at cD
                  rw [hW] at cW
                  generalize fe n l i = f at *
                  generalize wI l f = W0 at *
                  generalize mnC n d TH i = C at *
                  have g1 : (i : Int) < (n1 : Int) := by omega
                  have g2 : (0 : Int) ≤ (i : Int) := by omega
                  have g3 : (f : Int) < (m : Int) := by omega
                  have g4 : (0 : Int) ≤ (f : Int) := by omega
                  have tf1 : decide ((f : Int) < 0) = false := decide_eq_false (by omega)
                  have tf2 : decide ((m : Int) ≤ (f : Int)) = false := decide_eq_false (by omega)
                  have tf3 : decide (m ≤ f) = false := decide_eq_false (by omega)
                  have hfr := frac_sameM W0 1
                  rw [Nat.zero_add] at cN cD cW
                  clear hcell5 HR6 HE6 hNW hD1 hW hHG
                  go_wp2_with fail
                  go_quiet (fail)
                  have HB7 := Lib.hid (bel_drewN HBW.out nq)
                  replace cN : (wr.drewN nq).cell? ⟨b4, i * 5 + 2, none⟩ = some (.int .i64 W0) := cN
                  clear cF cD cW HBW hfr
                  generalize wr.drewN nq = w7 at *
                  by_cases hle : W0 ≤ TH
                  · have t1 : decide (W0 ≤ (TH : Int)) = true := decide_eq_true hle
                    have HS2 : Hid (mnC n d TH (i + 1) = C + 1) := HSUC.out.trans (if_pos hle)
                    have wC : IntKind.i64.wrap ((C : Int) + 1) = ((C + 1 : Nat) : Int) := by rw [IntWalk.i64_in _ (by omega)]; omega
                    clear hle
                    go_wp2_with fail
                    go_roundw
                    case rel => exact ⟨i + 1, by omega, by go_num, by rw [HS2.out]; go_num, HB7.out⟩
                    case measure => simp [intOf]; omega
                  · have t1 : decide (W0 ≤ (TH : Int)) = false := decide_eq_false hle
                    have HS2 : Hid (mnC n d TH (i + 1) = C) := HSUC.out.trans (if_neg hle)
                    clear hle
                    go_wp2_with fail
                    go_roundw
                    case rel => exact ⟨i + 1, by omega, by go_num, by rw [HS2.out], HB7.out⟩
                    case measure => simp [intOf]; omega
                · obtain rfl : i = n1 := by omega
                  have HGOT : Hid (labL n (runL n 1 d) ((mnC n d TH i : Nat) : Int) = (0, (foTo n l (cutT l TH)).k.map fun x : Nat => (x : Int))) := by
                    have := HOK.out.got TH
                    rw [HD.out, HN1.out] at this
                    exact this
                  have HI64 := Lib.hid (run_i64 (DOk.of_check HCK.out) (m := 1) (.inl rfl))
                  have HR7 := Lib.hid (HR5.out.below HBW.out)
                  have HE7 := Lib.hid (HE5.out.below HBW.out)
                  have HB7 := Lib.hid (bel_then HB5.out HBW.out)
                  clear HR5 HE5 HB5 HBW HO5 HFE HFM HFO HFL HCK
                  generalize mnC n d TH i = C at *
                  go_wp2_with fail
                  with_reducible refine (labels_ok wr n ao4 i cap4 b4 0 _ HR7.out (by omega) HL4.out.1 HL4.out.2 HI64.out C (by unfold I64; omega) (by unfold I64; omega)).mono ?_
                  rintro e w8 ⟨⟨lo, ll, lc, lb, rfl, hlr, _⟩, hb8⟩
                  rw [HGOT.out] at hlr ⊢
                  have hKl : (foTo n l (cutT l TH)).k.length = n := (foTo_cut HOK.out.gok (TH : Int)).len
                  have hll : ll = n := by rw [← hlr.size, List.length_map]; exact hKl
                  subst hll
                  have HL8 := Lib.hid hlr
                  have HB8 := Lib.hid (bel_then HB7.out hb8)
                  have HE8 := Lib.hid (HE7.out.below hb8)
                  have HSAME : Hid (spR ll l TH ll = (foTo ll l (cutT l TH)).k) := HOK.out.same TH
                  have HGOK := Lib.hid HOK.out.gok
                  obtain ⟨K, HK⟩ : ∃ K, Hid ((foTo ll l (cutT l TH)).k = K) := ⟨_, rfl⟩
                  rw [HK.out] at HL8 HSAME hKl
                  have HKL := Lib.hid hKl
                  clear hlr hb8 HB7 HE7 HR7 HGOT HI64 HL4 HD HOK HNN hKl
                  go_wp2_with (at_make; refine wpList_makeB 3 (.int .i64 0) 8 Tryd.underlying40 Tryd.infoInt rfl _ _ _ _ ll rfl rfl rfl rfl (by omega) (by unfold maxLen; omega) ?_; intro w9 B9 hb9)
                  have HL9 := Lib.hid (HL8.out.below hb9)
                  have HE9 := Lib.hid (HE8.out.below hb9)
                  have HB9 := Lib.hid (bel_then HB8.out hb9)
                  have hlb : lb < w8.heap.size := HL8.out.lt (by omega)
                  have HKB9 : Hid (Blk w9 w8.heap.size 3 (natV (idT ll 0))) := by
                    rw [idT_zero, natV_zero]; exact B9
                  obtain ⟨kb, HKB⟩ : ∃ kb, Hid (w8.heap.size = kb) := ⟨_, rfl⟩
                  have hkw : w.heap.size ≤ w8.heap.size := HB8.out.size
                  have hbl : 0 < m → bl < w8.heap.size := fun h => HE8.out.lt h
                  simp only [HKB.out] at HKB9 hlb hkw hbl ⊢
                  have HBLK : Hid (0 < m → bl < kb) := hbl
                  clear B9 hb9 HL8 HE8 HB8 hbl
                  go_loopw [210] (fun s wr => ∃ t : Nat, t ≤ ll ∧ s = .int .i64 (t : Int) ∧ Blk wr kb 3 (natV (idT ll t)) ∧ Mod (fun x => x = kb) w9 wr) (fun s _ => ll - (intOf s).toNat)
                  case atStart => exact ⟨0, Nat.zero_le _, rfl, HKB9.out, Mod.refl _ _⟩
                  case round =>
                    obtain ⟨t, ht, rfl, hk, hm⟩ := hrel
                    clear HKB9
                    have HKR := Lib.hid hk
                    have HMR := Lib.hid hm
                    clear hk hm
                    by_cases htl : t < ll
                    · have f1 := HKR.out.free t
                      have c1 := blk_atM HKR.out (i := t) (by rw [idT_len]; exact htl)
                      have HNX : Hid (Blk (wr.setCell ⟨kb, t, none⟩ (.int .i64 (t : Int))) kb 3 (natV (idT ll (t + 1)))) := by
                        rw [← idT_set]; exact blk_setM HKR.out t t
                      have HM2 : Hid (Mod (fun x => x = kb) w9 (wr.setCell ⟨kb, t, none⟩ (.int .i64 (t : Int)))) := HMR.out.setCell ⟨kb, t, none⟩ (fun _ => rfl) _
                      generalize (idT ll t).getD t 0 = z at c1
                      have g1 : (t : Int) < (ll : Int) := by omega
                      clear HKR HMR
                      go_wp2_with fail
                      go_roundw
                      case rel => exact ⟨t + 1, by omega, by go_num, HNX.out, HM2.out⟩
                      case measure => simp [intOf]; omega
                    · obtain rfl : t = ll := by omega
                      have HKR2 : Hid (Blk wr kb 3 (natV (spR t l TH 0))) := by
                        have := HKR.out; rw [idT_end] at this; exact this
                      have HM0 := HMR
                      clear HKR htl
                      generalize hw10 : wr = w10 at *
                      clear hw10
                      go_wp2_with fail
                      go_loopw [219] (fun s wr => ∃ r : Nat, r ≤ t ∧ s = .int .i64 (r : Int) ∧ Blk wr kb 3 (natV (spR t l TH r)) ∧ Mod (fun x => x = kb) w9 wr) (fun s _ => t - (intOf s).toNat)
                      case atStart => exact ⟨0, Nat.zero_le _, rfl, HKR2.out, HMR.out⟩
                      case round =>
                        obtain ⟨r, hr, rfl, hk, hm⟩ := hrel
                        clear HKR2 HMR HM0
                        have HKR := Lib.hid hk
                        have HMR := Lib.hid hm
                        clear hk hm
                        by_cases hrt : r < t
                        · have HLEN : Hid ((spR t l TH r).length = t) := spR_len t l TH r
                          have HSTEP : Hid (spR t l TH (r + 1) = spE l TH (spR t l TH r) l.length) := rfl
                          go_wp2_with fail
                          go_loopw [223] (fun s wr => ∃ j : Nat, j ≤ m ∧ s = .int .i64 (j : Int) ∧ Blk wr kb 3 (natV (spE l TH (spR t l TH r) j)) ∧ Mod (fun x => x = kb) w9 wr) (fun s _ => m - (intOf s).toNat)
                          case atStart => exact ⟨0, Nat.zero_le _, rfl, HKR.out, HMR.out⟩
                          case round =>
                            obtain ⟨j, hj, rfl, hk, hm⟩ := hrel
                            clear HKR HMR
                            have HKZ := Lib.hid hk
                            have HMZ := Lib.hid hm
                            clear hk hm
                            by_cases hjm : j < m
                            · obtain ⟨u1, u2, une, eU, eV⟩ := HGOK.out.uv (i := j) (by rw [HM.out]; exact hjm)
                              have HEZ := HE9.out.mod HMZ.out (fun h => by have := HBLK.out h; omega)
                              obtain ⟨cU, cV, cW⟩ := HEZ.cell j hjm
                              have haE := HE9.out.adr (by omega)
                              have hQL : (spE l TH (spR t l TH r) j).length = t := by rw [spE_len, HLEN.out]
                              have HNX : Hid (spE l TH (spR t l TH r) (j + 1) = if wI l j ≤ TH then ((spE l TH (spR t l TH r) j).set (uN l j) (min ((spE l TH (spR t l TH r) j).getD (uN l j) 0) ((spE l TH (spR t l TH r) j).getD (vN l j) 0))).set (vN l j) (min ((spE l TH (spR t l TH r) j).getD (uN l j) 0) ((spE l TH (spR t l TH r) j).getD (vN l j) 0)) else spE l TH (spR t l TH r) j) := rfl
                              have hW : (EA l j).W = wI l j := rfl
                              rw [eU] at cU
                              rw [eV] at cV
                              rw [hW] at cW
                              subst haE
                              rw [Nat.zero_add] at cU cV cW
                              obtain ⟨Q', HQP⟩ : ∃ q, Hid (spE l TH (spR t l TH r) (j + 1) = q) := ⟨_, rfl⟩
                              rw [HQP.out] at HNX
                              generalize spE l TH (spR t l TH r) j = Q at *
                              generalize uN l j = u at *
                              generalize vN l j = v at *
                              generalize wI l j = W0 at *
                              have g1 : (j : Int) < (m : Int) := by omega
                              have g2 : (0 : Int) ≤ (j : Int) := by omega
                              have g3 : (u : Int) < (t : Int) := by omega
                              have g4 : (0 : Int) ≤ (u : Int) := by omega
                              have g5 : (v : Int) < (t : Int) := by omega
                              have g6 : (0 : Int) ≤ (v : Int) := by omega
                              clear HEZ eU eV hW
                              have hkz := HKZ.out.lt
                              obtain ⟨wa, HWA⟩ : ∃ wa, Hid (wr.alloc (.cells #[.int .i64 (u : Int), .int .i64 (v : Int), .int .i64 W0] 35) = wa) := ⟨_, rfl⟩
                              have HKA : Hid (Blk wa kb 3 (natV Q)) := by rw [← HWA.out]; exact HKZ.out.alloc _
                              have HMA : Hid (Mod (fun x => x = kb) w9 wa) := by rw [← HWA.out]; exact HMZ.out.alloc _
                              have HXA : Hid (Blk wa wr.heap.size 35 [.int .i64 (u : Int), .int .i64 (v : Int), .int .i64 W0]) := by rw [← HWA.out]; exact Blk.new _ _ _
                              obtain ⟨xb, HXB⟩ : ∃ xb, Hid (wr.heap.size = xb) := ⟨_, rfl⟩
                              go_upto_region 42 with fail
                              rw [HWA.out]
                              rw [HXB.out] at HXA
                              simp only [HXB.out]
                              have x0 := HXA.out.cell (i := 0) rfl
                              have x1 := HXA.out.cell (i := 1) rfl
                              have x2 := HXA.out.cell (i := 2) rfl
                              have hxk : xb ≠ kb := by rw [← HXB.out]; omega
                              have UNE := Lib.hid une
                              clear cU cV cW HKZ HMZ HXA une
                              by_cases hle : W0 ≤ TH
                              · have t1 : decide (W0 ≤ (TH : Int)) = true := decide_eq_true hle
                                have HNX2 := Lib.hid (HNX.out.trans (if_pos hle))
                                have k1 := blk_atM HKA.out (i := u) (by rw [hQL]; omega)
                                have k2 := blk_atM HKA.out (i := v) (by rw [hQL]; omega)
                                have f1 := HKA.out.free u
                                have f2 := HKA.out.free v
                                have hmin : ∀ w, (Builtin.min_ #[3, 3] 3 #[Value.int IntKind.i64 ((Q.getD u 0 : Nat) : Int), .int .i64 ((Q.getD v 0 : Nat) : Int)]).run Tryd.prog w = .ok (.int .i64 ((min (Q.getD u 0) (Q.getD v 0) : Nat) : Int)) w := fun w => by
                                  have := min_runM ((Q.getD u 0 : Nat) : Int) ((Q.getD v 0 : Nat) : Int) w
                                  rw [show min ((Q.getD u 0 : Nat) : Int) ((Q.getD v 0 : Nat) : Int) = ((min (Q.getD u 0) (Q.getD v 0) : Nat) : Int) by omega] at this
                                  exact this
                                generalize min (Q.getD u 0) (Q.getD v 0) = mn at *
                                generalize Q.getD u 0 = qu at *
                                generalize Q.getD v 0 = qv at *
                                clear hle HNX hQL
                                go_wp2_with fail
                                go_quiet (fail)
                                have HKB3 : Hid (Blk (wa.drewN nq) kb 3 (natV Q)) := HKA.out.drewN nq
                                have HMB3 : Hid (Mod (fun x => x = kb) w9 (wa.drewN nq)) := HMA.out.drewN nq
                                replace x0 : (wa.drewN nq).cell? ⟨xb, 0, none⟩ = some (.int .i64 (u : Int)) := x0
                                replace x1 : (wa.drewN nq).cell? ⟨xb, 1, none⟩ = some (.int .i64 (v : Int)) := x1
                                replace k1 : (wa.drewN nq).cell? ⟨kb, u, none⟩ = some (.int .i64 (qu : Int)) := k1
                                replace k2 : (wa.drewN nq).cell? ⟨kb, v, none⟩ = some (.int .i64 (qv : Int)) := k2
                                replace f1 : (wa.drewN nq).frozen? ⟨kb, u, none⟩ = false := f1
                                replace f2 : (wa.drewN nq).frozen? ⟨kb, v, none⟩ = false := f2
                                clear hmin x2 HKA HMA HWA HXB t1
                                generalize wa.drewN nq = wb at *
                                have X0 := Lib.hid x0
                                have X1 := Lib.hid x1
                                have NX : Hid (¬ (xb = kb)) := hxk
                                have vne : v ≠ u := fun e => UNE.out e.symm
                                go_wp2_with fail
                                go_region_held3 (fun w' => w'.cell? ⟨xb, 0, none⟩ = some (.int .i64 (u : Int)) ∧ w'.cell? ⟨xb, 1, none⟩ = some (.int .i64 (v : Int)) ∧ Mod (fun z => z = kb) wb w')
                                  (((try go_split_ands); refine keep2M X0 X1 NX.out NX.out ?_; first | assumption | (repeat (first | exact Mod.refl _ _ | apply Mod.drew | refine Mod.setAt ?_ (by simp)))))
                                  (fail)
                                all_goals
                                  go_wp2_with fail
                                  go_roundw
                                  case rel =>
                                    refine ⟨j + 1, by omega, by go_num, ?_, ?_⟩
                                    · rw [HQP.out, HNX2.out]; exact blk_setM (blk_setM HKB3.out u mn) v mn
                                    · exact ((HMB3.out.setCell ⟨kb, u, none⟩ (fun _ => rfl) _).setCell ⟨kb, v, none⟩ (fun _ => rfl) _).drew
                                  case measure => simp [intOf]; omega
                              · have t1 : decide (W0 ≤ (TH : Int)) = false := decide_eq_false hle
                                have HNX2 := Lib.hid (HNX.out.trans (if_neg hle))
                                clear hle HNX hQL
                                go_wp2_with fail
                                go_roundw
                                case rel => exact ⟨j + 1, by omega, by go_num, by rw [HQP.out, HNX2.out]; exact HKA.out, HMA.out⟩
                                case measure => simp [intOf]; omega
                            · obtain rfl : j = m := by omega
                              rw [HM.out] at HSTEP
                              go_wp2_with fail
                              go_roundw
                              case rel => exact ⟨r + 1, by omega, by go_num, by rw [HSTEP.out]; exact HKZ.out, HMZ.out⟩
                              case measure => simp [intOf]; omega
                        · obtain rfl : r = t := by omega
                          rw [HSAME.out] at HKR
                          have HLF := Lib.hid (HL9.out.mod HMR.out (fun _ => by omega))
                          have HWI : Hid (InRow .i64 wr (some ⟨kb, 0, none⟩) r kb 0 (K.map fun x : Nat => (x : Int))) := by
                            have h := HKR.out
                            rw [show natV K = (K.map fun x : Nat => (x : Int)).map fun y => Value.int .i64 y by unfold natV; rw [List.map_map]; rfl] at h
                            have h2 := InRow.of_blk (k := .i64) h
                            rw [List.length_map, HKL.out] at h2
                            exact h2
                          have HBF : Hid (Below w.heap.size w wr) := bel_mod HB9.out HMR.out (fun x e => by rw [e]; exact hkw)
                          go_wp2_with fail
                          with_reducible refine (alike_ok wr lo (some ⟨kb, 0, none⟩) r lc r lb kb 0 0 _ HLF.out HWI.out (by omega)).mono ?_
                          rintro e w11 ⟨rfl, hb⟩
                          have HB11 := Lib.hid (bel_then HBF.out hb)
                          clear hb
                          go_wp2_with fail
                          with_reducible refine (works_ok w11).mono ?_
                          rintro e w12 ⟨rfl, hb⟩
                          have HB12 := Lib.hid (bel_then HB11.out hb)
                          clear hb
                          go_wp2_with fail
                          go_ret
                          exact ⟨rfl, HB12.out⟩
              -- TWO>

end Go.Proofs.YthacjealoomioaaDoor.Lk
