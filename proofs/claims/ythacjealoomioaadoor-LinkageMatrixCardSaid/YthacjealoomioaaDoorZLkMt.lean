/- linkage.Matrix of the program. -/
import Derived.Test.YthacjealoomioaaDoorZFwP
import Derived.Test.YthacjealoomioaaDoorZMgT
import Derived.Test.YthacjealoomioaaDoorZMmN
namespace Go.Proofs.YthacjealoomioaaDoor.Lk
set_option linter.unusedVariables false
set_option linter.unusedSimpArgs false
open Go.RowKit

def badE (e : Ed) : Prop := e.W < 0 ∨ 1099511627776 < e.W
instance (e : Ed) : Decidable (badE e) := by unfold badE; infer_instance
def badB (l : List Ed) : Bool := l.any fun e => decide (badE e)
def noneB (n : Nat) (l : List Ed) : Bool := (List.range n).any fun u => (List.range n).any fun v => !decide (u = v) && (mmV n l u v).isNone
/-- The error that Matrix returns. -/
def matC (n : Int) (l : List Ed) : Int := if 128 < n then 2 else if newErr n l ≠ 0 then newErr n l else if badB l = true then 3 else if noneB n.toNat l = true then 5 else 0

theorem badB_hit {l : List Ed} {i : Nat} (hi : i < l.length) (h : badE (EA l i)) : badB l = true := by
  unfold badB
  rw [List.any_eq_true]
  exact ⟨_, EA_mem hi, decide_eq_true h⟩
theorem badB_no {l : List Ed} (h : ∀ i, i < l.length → ¬ badE (EA l i)) : badB l = false := by
  unfold badB
  rw [List.any_eq_false]
  intro e he
  obtain ⟨i, hi⟩ := List.getElem?_of_mem he
  have hlt := (List.getElem?_eq_some_iff.1 hi).1
  have : EA l i = e := by unfold EA; rw [List.getD_eq_getElem?_getD, hi]; rfl
  rw [← this, decide_eq_false (h i hlt)]
  simp
theorem noneB_hit {n : Nat} {l : List Ed} {u v : Nat} (hu : u < n) (hv : v < n) (hne : u ≠ v) (h : mmV n l u v = none) : noneB n l = true := by
  unfold noneB
  rw [List.any_eq_true]
  refine ⟨u, List.mem_range.2 hu, ?_⟩
  rw [List.any_eq_true]
  refine ⟨v, List.mem_range.2 hv, ?_⟩
  rw [h, decide_eq_false hne]
  rfl
theorem noneB_no {n : Nat} {l : List Ed} (h : ∀ u v, u < n → v < n → u ≠ v → mmV n l u v ≠ none) : noneB n l = false := by
  unfold noneB
  rw [List.any_eq_false]
  intro u hu
  rw [List.mem_range] at hu
  rw [Bool.not_eq_true, List.any_eq_false]
  intro v hv
  rw [List.mem_range] at hv
  by_cases e : u = v
  · rw [decide_eq_true e]; simp
  · have := h u v hu hv e
    cases hm : mmV n l u v with
    | none => exact absurd hm this
    | some d => simp
theorem matC_big {n : Int} {l : List Ed} (h : 128 < n) : matC n l = 2 := if_pos h
theorem matC_err {n : Int} {l : List Ed} (h : n ≤ 128) (h0 : newErr n l ≠ 0) : matC n l = newErr n l := by unfold matC; rw [if_neg (by omega), if_pos h0]
theorem matC_bad {n : Nat} {l : List Ed} (h : (n : Int) ≤ 128) (h0 : newErr n l = 0) (hb : badB l = true) : matC n l = 3 := by unfold matC; rw [if_neg (by omega), if_neg (fun q => q h0), if_pos hb]
theorem matC_none {n : Nat} {l : List Ed} (h : (n : Int) ≤ 128) (h0 : newErr n l = 0) (hb : badB l = false) (hn : noneB n l = true) : matC n l = 5 := by unfold matC; rw [if_neg (by omega), if_neg (fun q => q h0), hb, if_neg (by decide), Int.toNat_natCast, if_pos hn]
theorem matC_ok {n : Nat} {l : List Ed} (h : (n : Int) ≤ 128) (h0 : newErr n l = 0) (hb : badB l = false) (hn : noneB n l = false) : matC n l = 0 := by unfold matC; rw [if_neg (by omega), if_neg (fun q => q h0), hb, if_neg (by decide), Int.toNat_natCast, hn]; rfl

def DoneP (u v p q : Nat) : Prop := p ≠ q ∧ (max p q < u ∨ (max p q = u ∧ min p q < v))
instance (u v p q : Nat) : Decidable (DoneP u v p q) := by unfold DoneP; infer_instance
def mmE (n : Nat) (l : List Ed) (p q : Nat) : Int := (mmV n l p q).getD 0
theorem mmE_symm (n : Nat) (l : List Ed) (p q : Nat) : mmE n l p q = mmE n l q p := by unfold mmE; rw [mmV_symm]

/-- The matrix before the pair u, v. -/
structure MtI (n : Nat) (l : List Ed) (u v : Nat) (d : List Int) : Prop where
  len : d.length = n * n
  at_ : ∀ p q, p < n → q < n → at2 n d p q = if DoneP u v p q then mmE n l p q else 0
  sm : ∀ p q, p < n → q < n → DoneP u v p q → mmV n l p q ≠ none

theorem MtI.start (n : Nat) (l : List Ed) : MtI n l 0 0 (List.replicate (n * n) 0) := by
  refine ⟨List.length_replicate, fun p q hp hq => ?_, fun p q hp hq h => ?_⟩
  · rw [if_neg (by unfold DoneP; omega)]
    unfold at2
    rw [List.getD_eq_getElem?_getD, List.getElem?_replicate, if_pos (idx_lt hp hq)]; rfl
  · unfold DoneP at h; omega
theorem MtI.put {n : Nat} {l : List Ed} {u v : Nat} {d : List Int} (h : MtI n l u v d) (hu : u < n) (hv : v < u) {th : Int} (hm : mmV n l u v = some th) : MtI n l u (v + 1) (put2 n d u v th) := by
  have e1 : mmE n l u v = th := by unfold mmE; rw [hm]; rfl
  have e2 : mmE n l v u = th := by rw [mmE_symm]; exact e1
  refine ⟨by unfold put2; rw [List.length_set, List.length_set]; exact h.len, fun p q hp hq => ?_, fun p q hp hq hd => ?_⟩
  · rw [at2_put2 h.len hu (by omega) th hp hq]
    by_cases c : (p = u ∧ q = v) ∨ (p = v ∧ q = u)
    · rw [if_pos (by omega), if_pos (by unfold DoneP; omega)]
      rcases c with ⟨rfl, rfl⟩ | ⟨rfl, rfl⟩
      · exact e1.symm
      · exact e2.symm
    · rw [if_neg (by omega), h.at_ p q hp hq]
      by_cases c2 : DoneP u v p q
      · rw [if_pos c2, if_pos (by unfold DoneP at *; omega)]
      · rw [if_neg c2, if_neg (by unfold DoneP at *; omega)]
  · by_cases c2 : DoneP u v p q
    · exact h.sm p q hp hq c2
    · have c : (p = u ∧ q = v) ∨ (p = v ∧ q = u) := by unfold DoneP at *; omega
      rcases c with ⟨rfl, rfl⟩ | ⟨rfl, rfl⟩
      · rw [hm]; simp
      · rw [mmV_symm, hm]; simp
theorem MtI.row {n : Nat} {l : List Ed} {u : Nat} {d : List Int} (h : MtI n l u u d) : MtI n l (u + 1) 0 d := by
  have e : ∀ p q, DoneP u u p q ↔ DoneP (u + 1) 0 p q := fun p q => by unfold DoneP; omega
  refine ⟨h.len, fun p q hp hq => ?_, fun p q hp hq hd => h.sm p q hp hq ((e p q).2 hd)⟩
  rw [h.at_ p q hp hq]
  by_cases c : DoneP u u p q
  · rw [if_pos c, if_pos ((e p q).1 c)]
  · rw [if_neg c, if_neg (fun k => c ((e p q).2 k))]
theorem at2_ext {n : Nat} {d d' : List Int} (h : d.length = n * n) (h' : d'.length = n * n) (he : ∀ p q, p < n → q < n → at2 n d p q = at2 n d' p q) : d = d' := by
  rcases Nat.eq_zero_or_pos n with rfl | hn
  · rw [List.eq_nil_of_length_eq_zero h, List.eq_nil_of_length_eq_zero h']
  apply List.ext_getElem (h.trans h'.symm)
  intro x h1 h2
  have hx : x < n * n := by omega
  have hp : x / n < n := (Nat.div_lt_iff_lt_mul hn).2 hx
  have hq : x % n < n := Nat.mod_lt _ hn
  have := he (x / n) (x % n) hp hq
  unfold at2 at this
  rw [Nat.mul_comm, Nat.div_add_mod] at this
  rw [List.getD_eq_getElem?_getD, List.getD_eq_getElem?_getD, List.getElem?_eq_getElem h1, List.getElem?_eq_getElem h2] at this
  exact this
theorem MtI.fin {n : Nat} {l : List Ed} {d : List Int} (hg : GOk n l) (hb : badB l = false) (h : MtI n l n 0 d) : d = fwK n l n ∧ noneB n l = false := by
  have hd : ∀ p q, p < n → q < n → p ≠ q → DoneP n 0 p q := fun p q hp hq hne => by unfold DoneP; omega
  have hw : ∀ i, i < l.length → 0 ≤ wI l i := fun i hi => by
    apply Classical.byContradiction
    intro hc
    have := badB_hit hi (show badE (EA l i) from .inl (by unfold wI at hc; omega))
    rw [hb] at this; cases this
  refine ⟨at2_ext h.len (fwK_len n l n) (fun p q hp hq => ?_), noneB_no (fun u v hu hv hne => h.sm u v hu hv (hd u v hu hv hne))⟩
  rw [h.at_ p q hp hq]
  by_cases e : p = q
  · subst e
    rw [if_neg (by unfold DoneP; omega), fw_diag hp]
  · rw [if_pos (hd p q hp hq e)]
    have hs := h.sm p q hp hq (hd p q hp hq e)
    cases hm : mmV n l p q with
    | none => exact absurd hm hs
    | some x =>
      rw [((fw_val hg hw hp hq e).1 x hm).1]
      unfold mmE
      rw [hm]; rfl

structure MtPost (w : World) (n : Int) (l : List Ed) (e : Ending) (w' : World) : Prop where
  bad : matC n l ≠ 0 → e = .returned (.tuple #[.slice none 0 0, .int .i64 (matC n l)])
  ok : matC n l = 0 → ∃ ao cap b, e = .returned (.tuple #[.slice ao (n.toNat * n.toNat) cap, .int .i64 0]) ∧ InRow .i64 w' ao (n.toNat * n.toNat) b 0 (fwK n.toNat l n.toNat)
  bel : Below w.heap.size w w'
theorem MtPost.no {w w' : World} {n : Int} {l : List Ed} {k : Int} (h : matC n l = k) (hk : k ≠ 0) (hb : Below w.heap.size w w') : MtPost w n l (.returned (.tuple #[.slice none 0 0, .int .i64 k])) w' :=
  ⟨fun _ => by rw [h], fun h0 => absurd (h.symm.trans h0) hk, hb⟩

set_option maxHeartbeats 16000000 in
set_option maxRecDepth 100000 in
theorem matrix_ok (w : World) (hT : Tab64 w) (n : Int) (ao : Option Addr) (m cap b off : Nat) (l : List Ed) (he : ERow w ao m b off l) (hm : m ≤ 9223372036854775807) (hnil : ao = none → cap = 0) (hn64 : -9223372036854775808 ≤ n ∧ n ≤ 9223372036854775807) :
    Calls Tryd.prog 6 #[.int .i64 n, .slice ao m cap] w (MtPost w n l) := by
  have HE := Lib.hid he
  have HNIL := Lib.hid hnil
  have H64 := Lib.hid hn64
  have HT := Lib.hid hT
  have HS := Lib.hid he.size
  clear he hnil hn64 hT
  by_cases hbig : 128 < n
  · have t1 : decide (128 < n) = true := decide_eq_true hbig
    have HC : Hid (matC n l = 2) := matC_big hbig
    clear hbig
    go_enter Tryd.func6, Tryd.ntmps6
    go_wp2_with fail
    go_ret2
    exact MtPost.no HC.out (by decide) (Below.refl _ _)
  have t1 : decide (128 < n) = false := decide_eq_false hbig
  have HBIG : Hid (n ≤ 128) := by show _ ≤ _; omega
  clear hbig
  go_enter Tryd.func6, Tryd.ntmps6
  go_wp2_with fail
  with_reducible refine (mnew_ok w n ao m cap b off l HE.out hm HNIL.out H64.out).mono ?_
  rintro e w1 ⟨hbad, hok, hb⟩
  have HB1 := Lib.hid hb
  have HT1 := Lib.hid (HT.out.below hb)
  have HE1 := Lib.hid (HE.out.below hb)
  clear hb HT HE t1
  by_cases h0 : newErr n l = 0
  · obtain ⟨M, rfl, hM⟩ := hok h0
    obtain ⟨k, rfl, hg⟩ := GOk.of_err h0
    rw [Int.toNat_natCast] at hM
    have HM1 := Lib.hid hM
    have HG := Lib.hid hg
    have H0 := Lib.hid h0
    have hk : k ≤ 128 := by have := HBIG.out; omega
    clear hbad hok hM hg h0
    go_wp2_with fail
    go_loopw [28] (fun s wr => ∃ i : Nat, i ≤ m ∧ s = .int .i64 i ∧ (∀ j, j < i → ¬ badE (EA l j)) ∧ Below w1.heap.size w1 wr) (fun s _ => m - (intOf s).toNat)
    case atStart => exact ⟨0, Nat.zero_le _, rfl, fun j hj => by omega, Below.refl _ _⟩
    case round =>
      obtain ⟨i, hi, rfl, hno, hbl⟩ := hrel
      have HNO := Lib.hid hno
      have HBL := Lib.hid hbl
      clear hno hbl
      by_cases him : i < m
      · obtain ⟨d0, d1, d2⟩ := (HE1.out.below HBL.out).cell i him
        obtain rfl := HE1.out.adr (by omega)
        have HHIT : Hid (badE (EA l i) → badB l = true) := fun h => badB_hit (by rw [HS.out]; exact him) h
        have HSUC : Hid (¬ badE (EA l i) → ∀ j, j < i + 1 → ¬ badE (EA l j)) := fun h j hj => by
          by_cases e : j < i
          · exact HNO.out j e
          · obtain rfl : j = i := by omega
            exact h
        have HBE : Hid (badE (EA l i) ↔ (EA l i).W < 0 ∨ 1099511627776 < (EA l i).W) := Iff.rfl
        generalize EA l i = E at *
        obtain ⟨eu, ev, ew⟩ := E
        simp only at d0 d1 d2 HBE
        have t2 : (i : Int) < (m : Int) := by omega
        have t3 : (0 : Int) ≤ (i : Int) := by omega
        have HAL : Hid (Below wr.heap.size wr (wr.alloc (.cells #[.int .i64 eu, .int .i64 ev, .int .i64 ew] 35))) := (Below.refl _ _).alloc (Nat.le_refl _) _
        have HBX := Lib.hid (Blk.new wr 35 [.int .i64 eu, .int .i64 ev, .int .i64 ew])
        have q2 := HBX.out.cell (i := 2) rfl
        by_cases hlo : ew < 0
        · have t4 : decide (ew < 0) = true := decide_eq_true hlo
          have HC : Hid (matC k l = 3) := matC_bad HBIG.out H0.out (HHIT.out (HBE.out.2 (.inl hlo)))
          clear hlo
          go_wp2_with fail
          go_ret2
          exact MtPost.no HC.out (by decide) (bel_then HB1.out (HBL.out.trans (HAL.out.mono HBL.out.size)))
        · have t4 : decide (ew < 0) = false := decide_eq_false hlo
          by_cases hhi : 1099511627776 < ew
          · have t5 : decide (1099511627776 < ew) = true := decide_eq_true hhi
            have HC : Hid (matC k l = 3) := matC_bad HBIG.out H0.out (HHIT.out (HBE.out.2 (.inr hhi)))
            clear hlo hhi
            go_wp2_with fail
            go_ret2
            exact MtPost.no HC.out (by decide) (bel_then HB1.out (HBL.out.trans (HAL.out.mono HBL.out.size)))
          · have t5 : decide (1099511627776 < ew) = false := decide_eq_false hhi
            have HN2 := Lib.hid (HSUC.out (fun h => by rcases HBE.out.1 h with h | h; exact hlo h; exact hhi h))
            clear hlo hhi
            go_wp2_with fail
            go_roundw
            case rel => exact ⟨i + 1, by omega, by go_num, HN2.out, HBL.out.trans (HAL.out.mono HBL.out.size)⟩
            case measure => simp [intOf]; omega
      · obtain rfl : i = m := by omega
        have HBB : Hid (badB l = false) := badB_no (fun j hj => HNO.out j (by rw [← HS.out]; exact hj))
        have HM2 := Lib.hid (HM1.out.below HBL.out)
        have HT2 := Lib.hid (HT1.out.below HBL.out)
        have HB2 := Lib.hid (bel_then HB1.out HBL.out)
        clear HNO HBL HM1 HT1 HB1 HE1
        obtain ⟨wz, rfl⟩ : ∃ wz : World, wz = wr := ⟨_, rfl⟩
        obtain ⟨nn, HNN⟩ : ∃ nn, Hid (k * k = nn) := ⟨_, rfl⟩
        have hnn : nn ≤ 16384 := by rw [← HNN.out]; exact Nat.mul_le_mul hk hk
        have enn : (k : Int) * (k : Int) = (nn : Int) := by rw [← Int.natCast_mul, HNN.out]
        have v0 : IntKind.i64.wrap (nn : Int) = (nn : Int) := IntWalk.i64_in _ (by omega)
        go_wp2_with (at_make; refine wpList_makeB 2 (.int .i64 0) 8 Tryd.underlying24 Tryd.infoI64V rfl _ _ _ _ nn rfl rfl rfl rfl (by omega) (by unfold maxLen; omega) ?_; intro w2 B2 hb2)
        have HM3 := Lib.hid (HM2.out.below hb2)
        have HT3 := Lib.hid (HT2.out.below hb2)
        have HB3 := Lib.hid (bel_then HB2.out hb2)
        obtain ⟨db, hdb⟩ : ∃ db, wz.heap.size = db := ⟨_, rfl⟩
        rw [hdb] at B2
        have HDB : Hid (db < w2.heap.size ∧ w.heap.size ≤ db) := ⟨B2.lt, by rw [← hdb]; exact HB2.out.size⟩
        have HMX : Hid (MtI k l 0 0 (List.replicate nn 0)) := by rw [← HNN.out]; exact MtI.start k l
        have HD : Hid (Blk w2 db 2 ((List.replicate nn (0 : Int)).map fun y => .int .i64 y)) := by show Blk _ _ _ _; rw [List.map_replicate]; exact B2
        rw [hdb]
        have HBW : Hid (Below db wz w2) := by rw [← hdb]; exact hb2
        have HWZ := Lib.hid hdb
        clear B2 hb2 hdb v0 HM3 HT3 HB3 HDB
        go_wp2_with fail
        go_loopw [46] (fun s wr => ∃ (u : Nat) (d : List Int), u ≤ k ∧ s = .int .i64 u ∧ MtI k l u 0 d ∧ Blk wr db 2 (d.map fun y => .int .i64 y) ∧ Below db wz wr) (fun s _ => k - (intOf s).toNat)
        case atStart => exact ⟨0, _, Nat.zero_le _, rfl, HMX.out, HD.out, HBW.out⟩
        case round =>
          obtain ⟨u, d0, hu, rfl, hmt, hblk, hbel⟩ := hrel
          have HMT := Lib.hid hmt
          have HBK := Lib.hid hblk
          have HBE := Lib.hid hbel
          clear hmt hblk hbel HMX HD HBW
          by_cases huk : u < k
          · have t2 : (u : Int) < (k : Int) := by omega
            go_wp2_with fail
            go_loopw [50] (fun s wr => ∃ (v : Nat) (d : List Int), v ≤ u ∧ s = .int .i64 v ∧ MtI k l u v d ∧ Blk wr db 2 (d.map fun y => .int .i64 y) ∧ Below db wz wr) (fun s _ => u - (intOf s).toNat)
            case atStart => exact ⟨0, d0, Nat.zero_le _, rfl, HMT.out, HBK.out, HBE.out⟩
            case round =>
              obtain ⟨v, d, hv, rfl, hmt, hblk, hbel⟩ := hrel
              have HMV := Lib.hid hmt
              have HBV := Lib.hid hblk
              have HBF := Lib.hid hbel
              clear hmt hblk hbel HMT HBK HBE
              by_cases hvu : v < u
              · have t3 : (v : Int) < (u : Int) := by omega
                have hwz := HWZ.out
                have hbz : Below wz.heap.size wz wr := by rw [hwz]; exact HBF.out
                have HMW := Lib.hid (HM2.out.below hbz)
                have HTW := Lib.hid (HT2.out.below hbz)
                clear hbz hwz
                go_wp2_with fail
                with_reducible refine (minimax_ok wr M k l HMW.out HG.out HTW.out u v).mono ?_
                rintro e w5 ⟨rfl, hb5⟩
                have HB5 := Lib.hid (HBF.out.trans (hb5.mono (Nat.le_of_lt HBV.out.lt)))
                have HD5 := Lib.hid (HBV.out.below hb5 HBV.out.lt)
                clear hb5 HMW HTW HBV HBF
                cases hmm : mmV k l u v with
                | none =>
                  have HC : Hid (matC k l = 5) := matC_none HBIG.out H0.out HBB.out (noneB_hit huk (show v < k by omega) (by omega) hmm)
                  clear hmm
                  unfold intR
                  simp only [Option.getD_none, Option.isSome_none]
                  go_wp2_with fail
                  go_ret2
                  exact MtPost.no HC.out (by decide) (bel_then HB2.out (by rw [HWZ.out]; exact HB5.out))
                | some th =>
                  have HPT := Lib.hid (HMV.out.put huk hvu hmm)
                  have hdl : d.length = nn := by rw [HMV.out.len]; exact HNN.out
                  clear hmm
                  unfold intR
                  simp only [Option.getD_some, Option.isSome_some]
                  have hvk : v < k := by omega
                  have x1 : u * k + v < nn := by rw [← HNN.out]; exact idx_lt huk hvk
                  have x2 : v * k + u < nn := by rw [← HNN.out]; exact idx_lt hvk huk
                  have xne : u * k + v ≠ v * k + u := fun e => by have := idx_inj hvk huk e; omega
                  have c1 := blk_int HD5.out (i := u * k + v) (by omega)
                  have c2 := blk_int HD5.out (i := v * k + u) (by omega)
                  have f1 := HD5.out.free (u * k + v)
                  have f2 := HD5.out.free (v * k + u)
                  have HPUT : Hid (∀ x, put2 k d u v x = (d.set (u * k + v) x).set (v * k + u) x) := fun x => rfl
                  have m1 : (u : Int) * (k : Int) = ((u * k : Nat) : Int) := by rw [Int.natCast_mul]
                  have m2 : (v : Int) * (k : Int) = ((v * k : Nat) : Int) := by rw [Int.natCast_mul]
                  generalize u * k = im at *
                  generalize v * k = jm at *
                  obtain ⟨p, hp⟩ : ∃ p, im + v = p := ⟨_, rfl⟩
                  obtain ⟨q, hq⟩ : ∃ q, jm + u = q := ⟨_, rfl⟩
                  have m3 : (im : Int) + (v : Int) = (p : Int) := by omega
                  have m4 : (jm : Int) + (u : Int) = (q : Int) := by omega
                  rw [hp] at x1 xne c1 f1 HPUT
                  rw [hq] at x2 xne c2 f2 HPUT
                  have v1 : IntKind.i64.wrap (im : Int) = (im : Int) := IntWalk.i64_in _ (by omega)
                  have v2 : IntKind.i64.wrap (jm : Int) = (jm : Int) := IntWalk.i64_in _ (by omega)
                  have v3 : IntKind.i64.wrap (p : Int) = (p : Int) := IntWalk.i64_in _ (by omega)
                  have v4 : IntKind.i64.wrap (q : Int) = (q : Int) := IntWalk.i64_in _ (by omega)
                  have y1 : (p : Int) < (nn : Int) := by omega
                  have y2 : (q : Int) < (nn : Int) := by omega
                  have xne1 : ¬ (p = q) := xne
                  have xne2 : ¬ (q = p) := fun e => xne e.symm
                  clear hp hq xne
                  generalize d.getD p 0 = x1v at c1
                  generalize d.getD q 0 = x2v at c2
                  go_wp2_with fail
                  go_roundw
                  case rel =>
                    refine ⟨v + 1, _, by omega, by go_num, HPT.out, ?_, ?_⟩
                    · rw [HPUT.out]
                      exact blk_set_int (blk_set_int HD5.out p th) q th
                    · exact (HB5.out.setCell (Nat.le_refl _) _).setCell (Nat.le_refl _) _
                  case measure => simp [intOf]; omega
              · obtain rfl : v = u := by omega
                have HRW := Lib.hid HMV.out.row
                go_wp2_with fail
                go_roundw
                case rel => exact ⟨v + 1, d, by omega, by go_num, HRW.out, HBV.out, HBF.out⟩
                case measure => simp [intOf]; omega
          · obtain rfl : u = k := by omega
            obtain ⟨hfin, hnone⟩ := HMT.out.fin HG.out HBB.out
            have HC : Hid (matC u l = 0) := matC_ok HBIG.out H0.out HBB.out hnone
            have HDL : Hid (d0.length = nn) := by rw [← HNN.out]; exact HMT.out.len
            subst hfin
            go_wp2_with fail
            go_ret2
            refine ⟨fun h => absurd HC.out h, fun _ => ⟨some ⟨db, 0, none⟩, nn, db, ?_, ?_⟩, bel_then HB2.out (by rw [HWZ.out]; exact HBE.out)⟩
            · rw [Int.toNat_natCast, HNN.out]
              rfl
            · rw [Int.toNat_natCast, HNN.out]
              have := InRow.of_blk HBK.out
              rw [HDL.out] at this
              exact this
  · obtain rfl := hbad h0
    have HC : Hid (matC n l = newErr n l) := matC_err HBIG.out h0
    have HZ := Lib.hid h0
    have t0 : (newErr n l != 0) = true := by simp [h0]
    clear hbad hok h0
    generalize newErr n l = z at *
    go_wp2_with fail
    go_ret2
    exact MtPost.no HC.out HZ.out HB1.out

end Go.Proofs.YthacjealoomioaaDoor.Lk
