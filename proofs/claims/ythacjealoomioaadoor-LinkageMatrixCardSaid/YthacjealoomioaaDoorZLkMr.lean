/- The reference's Matrix. -/
import Derived.Test.YthacjealoomioaaDoorZLkMt
import Derived.RegionTactic
import Derived.BigRegion
namespace Go.Proofs.YthacjealoomioaaDoor.Lk
set_option linter.unusedVariables false
set_option linter.unusedSimpArgs false
open Go.RowKit

theorem edErr_or {n : Int} {e : Ed} : edErr n e = if e.U < 0 ∨ n ≤ e.U ∨ e.V < 0 ∨ n ≤ e.V then 3 else if e.U = e.V then 9 else 0 := rfl

set_option maxHeartbeats 4000000 in
set_option maxRecDepth 100000 in
theorem rgraph_ok (w : World) (n : Int) (ao : Option Addr) (m cap b off : Nat) (l : List Ed) (he : ERow w ao m b off l) (hm : m ≤ 9223372036854775807) (hn64 : -9223372036854775808 ≤ n ∧ n ≤ 9223372036854775807) :
    Calls Tryd.prog 17 #[.int .i64 n, .slice ao m cap] w (RetB (.int .i64 (newErr n l)) w) := by
  have HE := Lib.hid he
  have HS := Lib.hid he.size
  clear he
  by_cases h1 : n < 0
  · have t1 : decide (n < 0) = true := by simp [h1]
    have HF : Hid (newErr n l = 2) := by show _ = _; unfold newErr; rw [if_pos (.inl h1)]
    clear h1
    go_enter Tryd.func17, Tryd.ntmps17
    go_wp2_with fail
    go_ret
    exact ⟨by rw [HF.out]; rfl, Below.refl _ _⟩
  by_cases h2 : 4096 < n
  · have t1 : decide (n < 0) = false := by simp; omega
    have t2 : decide (4096 < n) = true := by simp [h2]
    have HF : Hid (newErr n l = 2) := by show _ = _; unfold newErr; rw [if_pos (.inr (.inl h2))]
    clear h1 h2
    go_enter Tryd.func17, Tryd.ntmps17
    go_wp2_with fail
    go_ret
    exact ⟨by rw [HF.out]; rfl, Below.refl _ _⟩
  have t1 : decide (n < 0) = false := by simp; omega
  have t2 : decide (4096 < n) = false := by simp; omega
  by_cases h3 : 16384 < m
  · have t3 : decide (16384 < m) = true := by simp [h3]
    have t3' : decide ((16384 : Int) < (m : Int)) = true := by simp; omega
    have HF : Hid (newErr n l = 2) := by show _ = _; unfold newErr; rw [if_pos (.inr (.inr (by rw [HS.out]; exact h3)))]
    clear h1 h2 h3
    go_enter Tryd.func17, Tryd.ntmps17
    go_wp2_with fail
    go_ret
    exact ⟨by rw [HF.out]; rfl, Below.refl _ _⟩
  have t3 : decide (16384 < m) = false := by simp; omega
  have t3' : decide ((16384 : Int) < (m : Int)) = false := by simp; omega
  have HF : Hid (newErr n l = errFrom n l) := by show _ = _; unfold newErr; rw [if_neg (by rw [HS.out]; omega)]
  have hm2 : m ≤ 16384 := by omega
  have hn2 : 0 ≤ n := by omega
  have hn3 : n ≤ 4096 := by omega
  clear h1 h2 h3
  go_enter Tryd.func17, Tryd.ntmps17
  go_wp2_with fail
  clear t1 t2 t3 t3'
  go_loopw [5] (fun s wr => ∃ t : Nat, t ≤ m ∧ s = .int .i64 t ∧ Below w.heap.size w wr ∧ newErr n l = errFrom n (l.drop t)) (fun s _ => m - (intOf s).toNat)
  case atStart => exact ⟨0, Nat.zero_le _, rfl, Below.refl _ _, HF.out⟩
  case round =>
    obtain ⟨t, ht, rfl, hb, hf⟩ := hrel
    have HB := Lib.hid hb
    have HF' := Lib.hid hf
    clear hb hf HF
    by_cases htm : t < m
    · obtain ⟨c0, c1, c2⟩ := (HE.out.below HB.out).cell t htm
      obtain rfl := HE.out.adr (by omega)
      have hd := Lib.hid (HF'.out.trans (errFrom_drop (by rw [HS.out]; exact htm)))
      generalize EA l t = ed at *
      obtain ⟨U, V, W⟩ := ed
      simp only at c0 c1 c2
      have s1 : (t : Int) < (m : Int) := by omega
      have s0 : (0 : Int) ≤ (t : Int) := by omega
      have HBAD : Hid ((U < 0 ∨ n ≤ U ∨ V < 0 ∨ n ≤ V) → newErr n l = 3) := fun h => by
        have e : edErr n ⟨U, V, W⟩ = 3 := by rw [edErr_or, if_pos h]
        rw [hd.out, e, if_neg (by decide)]
      by_cases h1 : U < 0
      · have t1 : decide (U < 0) = true := by simp [h1]
        have HR := Lib.hid (HBAD.out (.inl h1))
        clear h1 hd HBAD
        go_wp2_with fail
        go_ret
        exact ⟨by rw [HR.out]; rfl, HB.out⟩
      have t1 : decide (U < 0) = false := by simp; omega
      by_cases h2 : n ≤ U
      · have t2 : decide (n ≤ U) = true := by simp [h2]
        have HR := Lib.hid (HBAD.out (.inr (.inl h2)))
        clear h1 h2 hd HBAD
        go_wp2_with fail
        go_ret
        exact ⟨by rw [HR.out]; rfl, HB.out⟩
      have t2 : decide (n ≤ U) = false := by simp; omega
      by_cases h3 : V < 0
      · have t3 : decide (V < 0) = true := by simp [h3]
        have HR := Lib.hid (HBAD.out (.inr (.inr (.inl h3))))
        clear h1 h2 h3 hd HBAD
        go_wp2_with fail
        go_ret
        exact ⟨by rw [HR.out]; rfl, HB.out⟩
      have t3 : decide (V < 0) = false := by simp; omega
      by_cases h4 : n ≤ V
      · have t4 : decide (n ≤ V) = true := by simp [h4]
        have HR := Lib.hid (HBAD.out (.inr (.inr (.inr h4))))
        clear h1 h2 h3 h4 hd HBAD
        go_wp2_with fail
        go_ret
        exact ⟨by rw [HR.out]; rfl, HB.out⟩
      have t4 : decide (n ≤ V) = false := by simp; omega
      have HOK : Hid (U ≠ V → newErr n l = errFrom n (l.drop (t + 1))) := fun h => by
        have e : edErr n ⟨U, V, W⟩ = 0 := by rw [edErr_or, if_neg (by show ¬ (U < 0 ∨ n ≤ U ∨ V < 0 ∨ n ≤ V); omega), if_neg h]
        rw [hd.out, e, if_pos rfl]
      have HLP : Hid (U = V → newErr n l = 9) := fun h => by
        have e : edErr n ⟨U, V, W⟩ = 9 := by rw [edErr_or, if_neg (by show ¬ (U < 0 ∨ n ≤ U ∨ V < 0 ∨ n ≤ V); omega), if_pos h]
        rw [hd.out, e, if_neg (by decide)]
      clear h1 h2 h3 h4 hd HBAD
      by_cases h5 : U = V
      · have t5 : (U == V) = true := by simp [h5]
        have HR := Lib.hid (HLP.out h5)
        clear h5 HLP HOK
        go_wp2_with fail
        clear t1 t2 t3 t4
        go_quiet (fail)
        go_wp2_with fail
        go_ret
        exact ⟨by rw [HR.out]; rfl, bel_drewN HB.out _⟩
      · have t5 : (U == V) = false := by simp [h5]
        have HR := Lib.hid (HOK.out h5)
        clear h5 HLP HOK
        go_wp2_with fail
        clear t1 t2 t3 t4
        go_quiet (fail)
        go_wp2_with fail
        go_roundw
        case rel => exact ⟨t + 1, by omega, by go_num, bel_drewN HB.out _, HR.out⟩
        case measure => simp [intOf]; omega
    · obtain rfl : t = m := by omega
      have HZ : Hid (newErr n l = 0) := by
        show _ = _
        rw [HF'.out, List.drop_of_length_le (by rw [HS.out]; exact Nat.le_refl _)]
        rfl
      go_wp2_with fail
      go_ret
      exact ⟨by rw [HZ.out]; rfl, HB.out⟩

theorem intV_setM (d : List Int) (i : Nat) (x : Int) : (intV d).set i (.int .i64 x) = intV (d.set i x) := by unfold intV; rw [List.map_set]
theorem intV_getM {d : List Int} {i : Nat} (hi : i < d.length) : (intV d)[i]? = some (.int .i64 (d.getD i 0)) := by
  unfold intV
  rw [List.getElem?_map, List.getD_eq_getElem?_getD, List.getElem?_eq_getElem hi]; rfl
theorem intV_repM (i : Nat) : intV (List.replicate (i + 1) (-1)) = intV (List.replicate i (-1)) ++ [.int .i64 (-1)] := by
  unfold intV
  rw [List.replicate_succ', List.map_append]; rfl

/-- The matrix in memory. -/
structure RmG (w wr : World) (nn g c : Nat) (d : List Int) : Prop where
  own : wr.ownsRow 0 2 1 (.slice (some ⟨g, 0, none⟩) nn c) nn (intV d)
  len : d.length = nn
  new : w.heap.size ≤ g
  bel : Below w.heap.size w wr
theorem RmG.drewN {w wr : World} {nn g c : Nat} {d : List Int} (h : RmG w wr nn g c d) (q : Nat) : RmG w (wr.drewN q) nn g c d := ⟨h.own, h.len, h.new, bel_drewN h.bel q⟩
theorem RmG.below {w wr w' : World} {nn g c : Nat} {d : List Int} (h : RmG w wr nn g c d) (hb : Below wr.heap.size wr w') : RmG w w' nn g c d :=
  ⟨owns_mod h.own (Mod.of_below (F := fun _ => False) hb) (fun _ _ h => h), h.len, h.new, h.bel.trans (hb.mono h.bel.size)⟩
theorem RmG.cell {w wr : World} {nn g c : Nat} {d : List Int} (h : RmG w wr nn g c d) {i : Nat} (hi : i < nn) : wr.cell? ⟨g, i, none⟩ = some (.int .i64 (d.getD i 0)) ∧ wr.frozen? ⟨g, i, none⟩ = false := by
  obtain ⟨g', cap', e, _, _, _, hc, hf⟩ := owns_form h.own (by omega)
  injection e with e
  injection e with e
  injection e with e
  subst e
  exact ⟨by rw [hc i (by omega), intV_getM (by rw [h.len]; exact hi)], hf i⟩
theorem RmG.set {w wr : World} {nn g c : Nat} {d : List Int} (h : RmG w wr nn g c d) {i : Nat} (hi : i < nn) (x : Int) : RmG w (wr.setCell ⟨g, i, none⟩ (.int .i64 x)) nn g c (d.set i x) := by
  have := owns_set h.own i (by omega) (.int .i64 x)
  rw [intV_setM] at this
  exact ⟨this, by rw [List.length_set]; exact h.len, h.new, h.bel.setCell h.new _⟩

/-- The entries in the end. -/
theorem fwK_neg {n : Nat} {l : List Ed} (hg : GOk n l) (hb : badB l = false) {x : Nat} (hx : x < n * n) (h : (fwK n l n).getD x 0 < 0) : noneB n l = true := by
  have hn : 0 < n := by
    rcases Nat.eq_zero_or_pos n with rfl | h
    · simp at hx
    · exact h
  have hw : ∀ i, i < l.length → 0 ≤ wI l i := fun i hi => by
    apply Classical.byContradiction
    intro hc
    have := badB_hit hi (show badE (EA l i) from .inl (by unfold wI at hc; omega))
    rw [hb] at this; cases this
  have hp : x / n < n := (Nat.div_lt_iff_lt_mul hn).2 hx
  have hq : x % n < n := Nat.mod_lt _ hn
  have e : at2 n (fwK n l n) (x / n) (x % n) < 0 := by
    unfold at2
    rw [Nat.mul_comm, Nat.div_add_mod]
    exact h
  have hne : x / n ≠ x % n := fun q => by
    rw [← q, fw_diag hp] at e
    omega
  cases hm : mmV n l (x / n : Nat) (x % n : Nat) with
  | none => exact noneB_hit hp hq hne hm
  | some d =>
    obtain ⟨h1, h2⟩ := (fw_val hg hw hp hq hne).1 d hm
    omega
theorem fwK_pos {n : Nat} {l : List Ed} (hg : GOk n l) (hb : badB l = false) (h : ∀ x, x < n * n → 0 ≤ (fwK n l n).getD x 0) : noneB n l = false := by
  have hw : ∀ i, i < l.length → 0 ≤ wI l i := fun i hi => by
    apply Classical.byContradiction
    intro hc
    have := badB_hit hi (show badE (EA l i) from .inl (by unfold wI at hc; omega))
    rw [hb] at this; cases this
  refine noneB_no fun u v hu hv hne hm => ?_
  have := (fw_val hg hw hu hv hne).2 hm
  have h2 := h (u * n + v) (idx_lt hu hv)
  unfold at2 at this
  omega
theorem fwE_next {n : Nat} {l : List Ed} {i : Nat} : fwE n l (i + 1) = if (fwE n l i).getD (uN l i * n + vN l i) 0 < 0 ∨ wI l i < (fwE n l i).getD (uN l i * n + vN l i) 0 then ((fwE n l i).set (uN l i * n + vN l i) (wI l i)).set (vN l i * n + uN l i) (wI l i) else fwE n l i := rfl
theorem fwJ_next {n k i : Nat} {d : List Int} {j : Nat} : fwJ n k i d (j + 1) = if (fwJ n k i d j).getD (i * n + k) 0 < 0 ∨ (fwJ n k i d j).getD (k * n + j) 0 < 0 then fwJ n k i d j else if (fwJ n k i d j).getD (i * n + j) 0 < 0 ∨ max ((fwJ n k i d j).getD (i * n + k) 0) ((fwJ n k i d j).getD (k * n + j) 0) < (fwJ n k i d j).getD (i * n + j) 0 then (fwJ n k i d j).set (i * n + j) (max ((fwJ n k i d j).getD (i * n + k) 0) ((fwJ n k i d j).getD (k * n + j) 0)) else fwJ n k i d j := rfl

set_option maxHeartbeats 64000000 in
set_option maxRecDepth 100000 in
theorem rmatrix_ok (w : World) (n : Int) (ao : Option Addr) (m cap b off : Nat) (l : List Ed) (he : ERow w ao m b off l) (hm : m ≤ 9223372036854775807) (hn64 : -9223372036854775808 ≤ n ∧ n ≤ 9223372036854775807) :
    Calls Tryd.prog 7 #[.int .i64 n, .slice ao m cap] w (MtPost w n l) := by
  have HE := Lib.hid he
  have H64 := Lib.hid hn64
  have HS := Lib.hid he.size
  clear he hn64
  by_cases hbig : 128 < n
  · have t1 : decide (128 < n) = true := decide_eq_true hbig
    have HC : Hid (matC n l = 2) := matC_big hbig
    clear hbig
    go_enter Tryd.func7, Tryd.ntmps7
    go_wp2_with fail
    go_ret2
    exact MtPost.no HC.out (by decide) (Below.refl _ _)
  have t1 : decide (128 < n) = false := decide_eq_false hbig
  have HBIG : Hid (n ≤ 128) := by show _ ≤ _; omega
  clear hbig
  go_enter Tryd.func7, Tryd.ntmps7
  go_wp2_with fail
  with_reducible refine (rgraph_ok w n ao m cap b off l HE.out hm H64.out).mono ?_
  rintro e w1 ⟨rfl, hb⟩
  have HB1 := Lib.hid hb
  clear hb t1
  by_cases h0 : newErr n l = 0
  · obtain ⟨k, rfl, hg⟩ := GOk.of_err h0
    have HG := Lib.hid hg
    have H0 := Lib.hid h0
    have hk : k ≤ 128 := by have := HBIG.out; omega
    rw [h0]
    clear hg h0
    obtain ⟨nn, HNN⟩ : ∃ nn, Hid (k * k = nn) := ⟨_, rfl⟩
    have hnn : nn ≤ 16384 := by rw [← HNN.out]; exact Nat.mul_le_mul hk hk
    have enn : (k : Int) * (k : Int) = (nn : Int) := by rw [← Int.natCast_mul, HNN.out]
    have v0 : IntKind.i64.wrap (nn : Int) = (nn : Int) := IntWalk.i64_in _ (by omega)
    go_wp2_with fail
    go_loopw [7, 8] (fun x s wr => ∃ i : Nat, i ≤ nn ∧ s = .int .i64 i ∧ wr.ownsRow 0 2 1 x i (intV (List.replicate i (-1))) ∧ (∀ y, x.ownBlock = some y → w.heap.size ≤ y) ∧ Below w.heap.size w wr) (fun _ s _ => nn - (intOf s).toNat)
    case atStart => exact ⟨0, Nat.zero_le _, rfl, World.ownsRow_nil _ _ _ _, fun y hy => (by cases hy), HB1.out⟩
    case round =>
      obtain ⟨i, hi, rfl, hx, hxn, hbl⟩ := hrel
      have HX := Lib.hid hx
      have HXN := Lib.hid hxn
      have HBL := Lib.hid hbl
      clear hx hxn hbl HB1
      by_cases hin : i < nn
      · have t1 : (i : Int) < (nn : Int) := by omega
        obtain ⟨xa, xc, rfl⟩ := owns_slice HX.out
        have HOW := Lib.hid (HX.out.alloc (.cells #[.int .i64 (-1)] 2))
        have HNW := Lib.hid (news_new wr 2 [.int .i64 (-1)])
        go_wp2_with (at_builtin; apply keepIt)
        apply Lib.hid
        refine wpList_appendB 2 (.int .i64 0) 1 8 Tryd.underlying24 Tryd.infoI64V rfl (by decide) _ i _ rfl HOW.out ⟨wr.heap.size, 0, none⟩ 1 1 [.int .i64 (-1)] rfl rfl HNW.out (by simp [Value.oneCell']) (by unfold maxLen; omega) (by omega) ?_
        intro v6 w6 ho6 hg6 hn6
        rw [← intV_repM] at ho6
        have hvn6 : ∀ y, v6.ownBlock = some y → w.heap.size ≤ y := fun y hy => by
          rcases hn6 y hy with e | e
          · exact HXN.out y e
          · have := HBL.out.size; simp at e; omega
        have hb6 : Below w.heap.size w w6 := HBL.out.trans (((Below.refl _ _).alloc HBL.out.size _).trans (grown_below hg6 HXN.out (by have := HBL.out.size; simp; omega)))
        have HB6 := Lib.hid hb6
        have HV6 := Lib.hid ho6
        have HN6 := Lib.hid hvn6
        clear ho6 hg6 hn6 hvn6 hb6
        go_wp2_with fail
        go_roundw
        case rel => exact ⟨i + 1, by omega, by go_num, HV6.out, HN6.out, HB6.out⟩
        case measure => simp [intOf]; omega
      · as_aux_lemma =>
          obtain rfl : i = nn := by omega
          rcases Nat.eq_zero_or_pos k with hk0 | hk0
          · as_aux_lemma =>
              subst hk0
              have hm0 : m = 0 := by
                apply Classical.byContradiction
                intro hc
                have := (HG.out.uv (i := 0) (by rw [HS.out]; omega)).1
                omega
              have hi0 : i = 0 := by have := HNN.out; omega
              subst hm0 hi0
              have hl0 : l = [] := List.eq_nil_of_length_eq_zero HS.out
              obtain ⟨xa, xc, rfl⟩ := owns_slice HX.out
              have HC : Hid (matC ((0 : Nat) : Int) l = 0) := by
                show _ = _
                rw [hl0]
                exact matC_ok (by decide) (by decide) rfl rfl
              go_wp2_with fail
              go_loopw [9] (fun s wz => s = .int .i64 0 ∧ Below w.heap.size w wz) (fun _ _ => 0)
              case atStart => exact ⟨rfl, HBL.out⟩
              case round =>
                obtain ⟨rfl, hb2⟩ := hrel
                have HB2 := Lib.hid hb2
                clear hb2
                go_wp2_with fail
                go_loopw [11] (fun s wz => s = .int .i64 0 ∧ Below w.heap.size w wz) (fun _ _ => 0)
                case atStart => exact ⟨rfl, HB2.out⟩
                case round =>
                  obtain ⟨rfl, hb2⟩ := hrel
                  have HB3 := Lib.hid hb2
                  clear hb2
                  go_wp2_with fail
                  go_loopw [16] (fun s wz => s = .int .i64 0 ∧ Below w.heap.size w wz) (fun _ _ => 0)
                  case atStart => exact ⟨rfl, HB3.out⟩
                  case round =>
                    obtain ⟨rfl, hb2⟩ := hrel
                    have HB4 := Lib.hid hb2
                    clear hb2
                    go_wp2_with fail
                    go_ret2
                    exact ⟨fun h => absurd HC.out h, fun _ => ⟨xa, xc, 0, rfl, ⟨by rw [Int.toNat_natCast, fwK_len], fun h => absurd h (by simp), fun i hi => absurd hi (by simp)⟩⟩, HB4.out⟩
          · have hnp : 0 < i := by rw [← HNN.out]; exact Nat.mul_pos hk0 hk0
            obtain ⟨g, c, rfl, hq⟩ := owns_form HX.out hnp
            clear hq
            have HR0 : Hid (RmG w wr i g c (fwE k l 0)) := ⟨by rw [fwE, HNN.out]; exact HX.out, by rw [fwE, HNN.out]; exact List.length_replicate, HXN.out g rfl, HBL.out⟩
            clear HX HXN HBL
            go_wp2_with fail
            go_loopw [9] (fun s wz => ∃ t : Nat, t ≤ m ∧ s = .int .i64 t ∧ (∀ j, j < t → ¬ badE (EA l j)) ∧ RmG w wz i g c (fwE k l t)) (fun s _ => m - (intOf s).toNat)
            case atStart => exact ⟨0, Nat.zero_le _, rfl, fun j hj => by omega, HR0.out⟩
            case round =>
              obtain ⟨t, ht, rfl, hno, hrm⟩ := hrel
              have HNO := Lib.hid hno
              have HRM := Lib.hid hrm
              clear hno hrm HR0
              by_cases htm : t < m
              · have htl : t < l.length := by rw [HS.out]; exact htm
                obtain ⟨d0, d1, d2⟩ := (HE.out.below HRM.out.bel).cell t htm
                obtain ⟨hu, hv, huv, eU, eV⟩ := HG.out.uv htl
                rw [eU] at d0
                rw [eV] at d1
                obtain rfl := HE.out.adr (by omega)
                have HHIT : Hid (badE (EA l t) → badB l = true) := fun h => badB_hit htl h
                have HSUC : Hid (¬ badE (EA l t) → ∀ j, j < t + 1 → ¬ badE (EA l j)) := fun h j hj => by
                  by_cases e : j < t
                  · exact HNO.out j e
                  · obtain rfl : j = t := by omega
                    exact h
                have HBE : Hid (badE (EA l t) ↔ (EA l t).W < 0 ∨ 1099511627776 < (EA l t).W) := Iff.rfl
                have HNX : Hid (fwE k l (t + 1) = if (fwE k l t).getD (uN l t * k + vN l t) 0 < 0 ∨ (EA l t).W < (fwE k l t).getD (uN l t * k + vN l t) 0 then ((fwE k l t).set (uN l t * k + vN l t) (EA l t).W).set (vN l t * k + uN l t) (EA l t).W else fwE k l t) := fwE_next
                have x1 : uN l t * k + vN l t < i := by rw [← HNN.out]; exact idx_lt hu hv
                have x2 : vN l t * k + uN l t < i := by rw [← HNN.out]; exact idx_lt hv hu
                have xne : uN l t * k + vN l t ≠ vN l t * k + uN l t := fun e => by have := idx_inj hv hu e; omega
                have HDN : Hid (fwE k l (t + 1) = fwE k l (t + 1)) := rfl
                obtain ⟨D2, hD2⟩ : ∃ D2, fwE k l (t + 1) = D2 := ⟨_, rfl⟩
                rw [hD2] at HNX
                have HD2 := Lib.hid hD2
                clear hD2 HDN eU eV htl
                generalize fwE k l t = D at *
                generalize uN l t = u at *
                generalize vN l t = v at *
                generalize (EA l t).W = ew at *
                have t2 : (t : Int) < (m : Int) := by omega
                have t3 : (0 : Int) ≤ (t : Int) := by omega
                have HAL : Hid (Below wr.heap.size wr (wr.alloc (.cells #[.int .i64 u, .int .i64 v, .int .i64 ew] 35))) := (Below.refl _ _).alloc (Nat.le_refl _) _
                have HBX := Lib.hid (Blk.new wr 35 [.int .i64 u, .int .i64 v, .int .i64 ew])
                have q0 := HBX.out.cell (i := 0) rfl
                have q1 := HBX.out.cell (i := 1) rfl
                have q2 := HBX.out.cell (i := 2) rfl
                have HR2 := Lib.hid (HRM.out.below HAL.out)
                have m1 : (u : Int) * (k : Int) = ((u * k : Nat) : Int) := by rw [Int.natCast_mul]
                have m2 : (v : Int) * (k : Int) = ((v * k : Nat) : Int) := by rw [Int.natCast_mul]
                generalize u * k = im at *
                generalize v * k = jm at *
                obtain ⟨p, hp⟩ : ∃ p, im + v = p := ⟨_, rfl⟩
                obtain ⟨q, hq⟩ : ∃ q, jm + u = q := ⟨_, rfl⟩
                have m3 : (im : Int) + (v : Int) = (p : Int) := by omega
                have m4 : (jm : Int) + (u : Int) = (q : Int) := by omega
                rw [hp] at x1 xne HNX
                rw [hq] at x2 xne HNX
                have v1 : IntKind.i64.wrap (im : Int) = (im : Int) := IntWalk.i64_in _ (by omega)
                have v2 : IntKind.i64.wrap (jm : Int) = (jm : Int) := IntWalk.i64_in _ (by omega)
                have v3 : IntKind.i64.wrap (p : Int) = (p : Int) := IntWalk.i64_in _ (by omega)
                have v4 : IntKind.i64.wrap (q : Int) = (q : Int) := IntWalk.i64_in _ (by omega)
                have y1 : (p : Int) < (i : Int) := by omega
                have y2 : (q : Int) < (i : Int) := by omega
                have y3 : (0 : Int) ≤ (p : Int) := by omega
                have y4 : (0 : Int) ≤ (q : Int) := by omega
                have xne1 : ¬ (p = q) := xne
                have xne2 : ¬ (q = p) := fun e => xne e.symm
                have hgl : g < wr.heap.size := World.block_lt_of_cell? wr _ (HRM.out.cell x1).1
                have hst1 : ¬ (wr.heap.size = g) := by omega
                have hst2 : ¬ (g = wr.heap.size) := by omega
                obtain ⟨c1, f1⟩ := HR2.out.cell x1
                obtain ⟨c2, f2⟩ := HR2.out.cell x2
                have HSET : Hid (∀ W, RmG w W i g c D → RmG w ((W.setCell ⟨g, p, none⟩ (.int .i64 ew)).setCell ⟨g, q, none⟩ (.int .i64 ew)) i g c ((D.set p ew).set q ew)) := fun W h => (h.set x1 ew).set x2 ew
                have HCL : Hid (∀ W, RmG w W i g c D → W.cell? ⟨g, p, none⟩ = some (.int .i64 (D.getD p 0)) ∧ W.frozen? ⟨g, p, none⟩ = false ∧ W.cell? ⟨g, q, none⟩ = some (.int .i64 (D.getD q 0)) ∧ W.frozen? ⟨g, q, none⟩ = false) := fun W h => ⟨(h.cell x1).1, (h.cell x1).2, (h.cell x2).1, (h.cell x2).2⟩
                clear hp hq xne hu hv huv
                generalize D.getD p 0 = C at *
                generalize D.getD q 0 = C' at *
                by_cases hlo : ew < 0
                · as_aux_lemma =>
                    have t4 : decide (ew < 0) = true := decide_eq_true hlo
                    have HC : Hid (matC k l = 3) := matC_bad HBIG.out H0.out (HHIT.out (HBE.out.2 (.inl hlo)))
                    clear hlo c1 c2 f1 f2
                    go_wp2_with fail
                    go_ret2
                    exact MtPost.no HC.out (by decide) HR2.out.bel
                · have t4 : decide (ew < 0) = false := decide_eq_false hlo
                  by_cases hhi : 1099511627776 < ew
                  · as_aux_lemma =>
                      have t5 : decide (1099511627776 < ew) = true := decide_eq_true hhi
                      have HC : Hid (matC k l = 3) := matC_bad HBIG.out H0.out (HHIT.out (HBE.out.2 (.inr hhi)))
                      clear hlo hhi c1 c2 f1 f2
                      go_wp2_with fail
                      go_ret2
                      exact MtPost.no HC.out (by decide) HR2.out.bel
                  · have t5 : decide (1099511627776 < ew) = false := decide_eq_false hhi
                    have HN2 := Lib.hid (HSUC.out (fun h => by rcases HBE.out.1 h with h | h; exact hlo h; exact hhi h))
                    clear hlo hhi HHIT HSUC HBE HNO
                    by_cases h1 : C < 0
                    · as_aux_lemma =>
                        have u1 : decide (C < 0) = true := decide_eq_true h1
                        have HF : Hid (D2 = (D.set p ew).set q ew) := by show _ = _; rw [HNX.out, if_pos (.inl h1)]
                        clear h1
                        clear HNX
                        go_wp2_with fail
                        go_quiet (fail)
                        have HR7 := Lib.hid (HR2.out.drewN nq)
                        replace q0 : ((wr.alloc (.cells #[.int .i64 u, .int .i64 v, .int .i64 ew] 35)).drewN nq).cell? ⟨wr.heap.size, 0, none⟩ = some (.int .i64 (u : Int)) := q0
                        replace q1 : ((wr.alloc (.cells #[.int .i64 u, .int .i64 v, .int .i64 ew] 35)).drewN nq).cell? ⟨wr.heap.size, 1, none⟩ = some (.int .i64 (v : Int)) := q1
                        replace q2 : ((wr.alloc (.cells #[.int .i64 u, .int .i64 v, .int .i64 ew] 35)).drewN nq).cell? ⟨wr.heap.size, 2, none⟩ = some (.int .i64 ew) := q2
                        clear c1 c2 f1 f2 HR2 d0 d1 d2
                        generalize (wr.alloc (.cells #[.int .i64 u, .int .i64 v, .int .i64 ew] 35)).drewN nq = w8 at *
                        obtain ⟨c1, f1, c2, f2⟩ := HCL.out _ HR7.out
                        have HR9 := Lib.hid ((HSET.out _ HR7.out).drewN 1)
                        go_wp2_with fail
                        go_region
                        all_goals
                          go_wp2_with fail
                          go_roundw
                          case rel => exact ⟨t + 1, by omega, by go_num, HN2.out, by rw [HD2.out, HF.out]; exact HR9.out⟩
                          case measure => simp [intOf]; omega
                    · as_aux_lemma =>
                        have u1 : decide (C < 0) = false := decide_eq_false h1
                        by_cases h2 : ew < C
                        · as_aux_lemma =>
                            have u2 : decide (ew < C) = true := decide_eq_true h2
                            have HF : Hid (D2 = (D.set p ew).set q ew) := by show _ = _; rw [HNX.out, if_pos (.inr h2)]
                            clear h1 h2
                            clear HNX
                            go_wp2_with fail
                            go_quiet (fail)
                            have HR7 := Lib.hid (HR2.out.drewN nq)
                            replace q0 : ((wr.alloc (.cells #[.int .i64 u, .int .i64 v, .int .i64 ew] 35)).drewN nq).cell? ⟨wr.heap.size, 0, none⟩ = some (.int .i64 (u : Int)) := q0
                            replace q1 : ((wr.alloc (.cells #[.int .i64 u, .int .i64 v, .int .i64 ew] 35)).drewN nq).cell? ⟨wr.heap.size, 1, none⟩ = some (.int .i64 (v : Int)) := q1
                            replace q2 : ((wr.alloc (.cells #[.int .i64 u, .int .i64 v, .int .i64 ew] 35)).drewN nq).cell? ⟨wr.heap.size, 2, none⟩ = some (.int .i64 ew) := q2
                            clear c1 c2 f1 f2 HR2 d0 d1 d2
                            generalize (wr.alloc (.cells #[.int .i64 u, .int .i64 v, .int .i64 ew] 35)).drewN nq = w8 at *
                            obtain ⟨c1, f1, c2, f2⟩ := HCL.out _ HR7.out
                            have HR9 := Lib.hid ((HSET.out _ HR7.out).drewN 1)
                            go_wp2_with fail
                            go_region
                            all_goals
                              go_wp2_with fail
                              go_roundw
                              case rel => exact ⟨t + 1, by omega, by go_num, HN2.out, by rw [HD2.out, HF.out]; exact HR9.out⟩
                              case measure => simp [intOf]; omega
                        · as_aux_lemma =>
                            have u2 : decide (ew < C) = false := decide_eq_false h2
                            have HF : Hid (D2 = D) := by show _ = _; rw [HNX.out, if_neg (fun q => q.elim h1 h2)]
                            clear h1 h2
                            clear HNX
                            go_wp2_with fail
                            go_quiet (fail)
                            have HR9 := Lib.hid (HR2.out.drewN nq)
                            go_wp2_with fail
                            go_roundw
                            case rel => exact ⟨t + 1, by omega, by go_num, HN2.out, by rw [HD2.out, HF.out]; exact HR9.out⟩
                            case measure => simp [intOf]; omega
              · as_aux_lemma =>
                  obtain rfl : t = m := by omega
                  have HBB : Hid (badB l = false) := badB_no (fun j hj => HNO.out j (by rw [← HS.out]; exact hj))
                  have HR0 : Hid (RmG w wr i g c (fwK k l 0)) := by show RmG _ _ _ _ _ _; rw [fwK, HS.out]; exact HRM.out
                  clear HNO HRM HE
                  go_wp2_with fail
                  go_loopw [11] (fun s wz => ∃ kk : Nat, kk ≤ k ∧ s = .int .i64 kk ∧ RmG w wz i g c (fwK k l kk)) (fun s _ => k - (intOf s).toNat)
                  case atStart => exact ⟨0, Nat.zero_le _, rfl, HR0.out⟩
                  case round =>
                    obtain ⟨kk, hkk, rfl, hrm⟩ := hrel
                    have HRK := Lib.hid hrm
                    clear hrm HR0
                    by_cases hkl : kk < k
                    · as_aux_lemma =>
                        have z1 : kk * k + kk < i := by rw [← HNN.out]; exact idx_lt hkl hkl
                        have HST : Hid (RmG w (wr.setCell ⟨g, kk * k + kk, none⟩ (.int .i64 0)) i g c (fwI k kk ((fwK k l kk).set (kk * k + kk) 0) 0)) := HRK.out.set z1 0
                        have HNK : Hid (fwI k kk ((fwK k l kk).set (kk * k + kk) 0) k = fwK k l (kk + 1)) := rfl
                        obtain ⟨c1, f1⟩ := HRK.out.cell z1
                        have n1 : (kk : Int) * (k : Int) = ((kk * k : Nat) : Int) := by rw [Int.natCast_mul]
                        generalize (fwK k l kk).set (kk * k + kk) 0 = Z0 at *
                        generalize (fwK k l kk).getD (kk * k + kk) 0 = zz at c1
                        have HKM : Hid (∀ j, j < k → kk * k + j < i) := fun j hj => by rw [← HNN.out]; exact idx_lt hkl hj
                        have HKE : Hid (kk * k = kk * k) := rfl
                        obtain ⟨km, hkm⟩ : ∃ km, kk * k = km := ⟨_, rfl⟩
                        rw [hkm] at z1 HST c1 f1 n1 HKM
                        have HKK := Lib.hid hkm
                        clear hkm HKE
                        obtain ⟨p, hp⟩ : ∃ p, km + kk = p := ⟨_, rfl⟩
                        have n2 : (km : Int) + (kk : Int) = (p : Int) := by omega
                        rw [hp] at z1 HST c1 f1
                        have v1 : IntKind.i64.wrap (km : Int) = (km : Int) := IntWalk.i64_in _ (by omega)
                        have v2 : IntKind.i64.wrap (p : Int) = (p : Int) := IntWalk.i64_in _ (by omega)
                        have y1 : (p : Int) < (i : Int) := by omega
                        have y2 : (0 : Int) ≤ (p : Int) := by omega
                        have y3 : (kk : Int) < (k : Int) := by omega
                        clear hp
                        go_wp2_with fail
                        generalize wr.setCell ⟨g, p, none⟩ (.int .i64 0) = w0 at *
                        clear c1 f1 HRK n2 v2 y1 y2
                        go_loopw [12] (fun s wz => ∃ a : Nat, a ≤ k ∧ s = .int .i64 a ∧ RmG w wz i g c (fwI k kk Z0 a)) (fun s _ => k - (intOf s).toNat)
                        case atStart => exact ⟨0, Nat.zero_le _, rfl, HST.out⟩
                        case round =>
                          obtain ⟨a, ha, rfl, hrm⟩ := hrel
                          have HRA := Lib.hid hrm
                          clear hrm HST
                          by_cases hal : a < k
                          · as_aux_lemma =>
                              have HNA : Hid (fwJ k kk a (fwI k kk Z0 a) k = fwI k kk Z0 (a + 1)) := rfl
                              have HRA0 : Hid (RmG w wr i g c (fwJ k kk a (fwI k kk Z0 a) 0)) := HRA.out
                              generalize fwI k kk Z0 a = Z1 at *
                              have y4 : (a : Int) < (k : Int) := by omega
                              have o1 : (a : Int) * (k : Int) = ((a * k : Nat) : Int) := by rw [Int.natCast_mul]
                              have HAM : Hid (∀ j, j < k → a * k + j < i) := fun j hj => by rw [← HNN.out]; exact idx_lt hal hj
                              obtain ⟨am, ham⟩ : ∃ am, a * k = am := ⟨_, rfl⟩
                              rw [ham] at o1 HAM
                              have HAE := Lib.hid ham
                              clear ham HRA
                              have p1 := HAM.out kk hkl
                              obtain ⟨p, hp⟩ : ∃ p, am + kk = p := ⟨_, rfl⟩
                              rw [hp] at p1
                              have o2 : (am : Int) + (kk : Int) = (p : Int) := by omega
                              have HPE := Lib.hid hp
                              clear hp
                              have v3 : IntKind.i64.wrap (am : Int) = (am : Int) := IntWalk.i64_in _ (by omega)
                              have v4 : IntKind.i64.wrap (p : Int) = (p : Int) := IntWalk.i64_in _ (by omega)
                              have y5 : (p : Int) < (i : Int) := by omega
                              have y6 : (0 : Int) ≤ (p : Int) := by omega
                              go_wp2_with fail
                              go_loopw [13] (fun s wz => ∃ j : Nat, j ≤ k ∧ s = .int .i64 j ∧ RmG w wz i g c (fwJ k kk a Z1 j)) (fun s _ => k - (intOf s).toNat)
                              case atStart => exact ⟨0, Nat.zero_le _, rfl, HRA0.out⟩
                              case round =>
                                obtain ⟨j, hj, rfl, hrm⟩ := hrel
                                have HRJ := Lib.hid hrm
                                clear hrm HRA0
                                by_cases hjl : j < k
                                · as_aux_lemma =>
                                    have HNJ : Hid (fwJ k kk a Z1 (j + 1) = if (fwJ k kk a Z1 j).getD (a * k + kk) 0 < 0 ∨ (fwJ k kk a Z1 j).getD (kk * k + j) 0 < 0 then fwJ k kk a Z1 j else if (fwJ k kk a Z1 j).getD (a * k + j) 0 < 0 ∨ max ((fwJ k kk a Z1 j).getD (a * k + kk) 0) ((fwJ k kk a Z1 j).getD (kk * k + j) 0) < (fwJ k kk a Z1 j).getD (a * k + j) 0 then (fwJ k kk a Z1 j).set (a * k + j) (max ((fwJ k kk a Z1 j).getD (a * k + kk) 0) ((fwJ k kk a Z1 j).getD (kk * k + j) 0)) else fwJ k kk a Z1 j) := fwJ_next
                                    rw [HAE.out, HKK.out, HPE.out] at HNJ
                                    have q1 := HKM.out j hjl
                                    have r1 := HAM.out j hjl
                                    obtain ⟨E2, hE2⟩ : ∃ E2, fwJ k kk a Z1 (j + 1) = E2 := ⟨_, rfl⟩
                                    rw [hE2] at HNJ
                                    have HE2 := Lib.hid hE2
                                    clear hE2
                                    generalize fwJ k kk a Z1 j = E at *
                                    obtain ⟨q, hq⟩ : ∃ q, km + j = q := ⟨_, rfl⟩
                                    obtain ⟨r, hr⟩ : ∃ r, am + j = r := ⟨_, rfl⟩
                                    rw [hq] at q1 HNJ
                                    rw [hr] at r1 HNJ
                                    have o3 : (km : Int) + (j : Int) = (q : Int) := by omega
                                    have o4 : (am : Int) + (j : Int) = (r : Int) := by omega
                                    have v5 : IntKind.i64.wrap (q : Int) = (q : Int) := IntWalk.i64_in _ (by omega)
                                    have v6 : IntKind.i64.wrap (r : Int) = (r : Int) := IntWalk.i64_in _ (by omega)
                                    have y7 : (q : Int) < (i : Int) := by omega
                                    have y8 : (0 : Int) ≤ (q : Int) := by omega
                                    have y9 : (r : Int) < (i : Int) := by omega
                                    have ya : (0 : Int) ≤ (r : Int) := by omega
                                    have yb : (j : Int) < (k : Int) := by omega
                                    clear hq hr
                                    obtain ⟨c1, _⟩ := HRJ.out.cell p1
                                    obtain ⟨c2, _⟩ := HRJ.out.cell q1
                                    have HC3 : Hid (∀ W, RmG w W i g c E → W.cell? ⟨g, r, none⟩ = some (.int .i64 (E.getD r 0)) ∧ W.frozen? ⟨g, r, none⟩ = false) := fun W h => h.cell r1
                                    have HSR : Hid (∀ W x, RmG w W i g c E → RmG w (W.setCell ⟨g, r, none⟩ (.int .i64 x)) i g c (E.set r x)) := fun W x h => h.set r1 x
                                    generalize E.getD p 0 = A at *
                                    generalize E.getD q 0 = B at *
                                    generalize E.getD r 0 = C at *
                                    go_wp2_with fail
                                    go_quiet (fail)
                                    have HR7 := Lib.hid (HRJ.out.drewN nq)
                                    generalize wr.drewN nq = w7 at HR7 ⊢
                                    clear c1 c2 HRJ
                                    obtain ⟨c3, f3⟩ := HC3.out _ HR7.out
                                    by_cases ha0 : A < 0
                                    · as_aux_lemma =>
                                        have u1 : decide (A < 0) = true := decide_eq_true ha0
                                        have HF : Hid (E2 = E) := by show _ = _; rw [HNJ.out, if_pos (.inl ha0)]
                                        clear HNJ
                                        go_wp2_with fail
                                        go_roundw
                                        case rel => exact ⟨j + 1, by omega, by go_num, by rw [HE2.out, HF.out]; exact HR7.out⟩
                                        case measure => simp [intOf]; omega

                                    · as_aux_lemma =>
                                        have u1 : decide (A < 0) = false := decide_eq_false ha0
                                        by_cases hb0 : B < 0
                                        · as_aux_lemma =>
                                            have u2 : decide (B < 0) = true := decide_eq_true hb0
                                            have HF : Hid (E2 = E) := by show _ = _; rw [HNJ.out, if_pos (.inr hb0)]
                                            clear HNJ
                                            go_wp2_with fail
                                            go_roundw
                                            case rel => exact ⟨j + 1, by omega, by go_num, by rw [HE2.out, HF.out]; exact HR7.out⟩
                                            case measure => simp [intOf]; omega

                                        · as_aux_lemma =>
                                            have u2 : decide (B < 0) = false := decide_eq_false hb0
                                            by_cases hba : A < B
                                            · have u3 : decide (A < B) = true := decide_eq_true hba
                                              have hmx : max A B = B := by omega
                                              by_cases hc0 : C < 0
                                              · have u4 : decide (C < 0) = true := decide_eq_true hc0
                                                have HF : Hid (E2 = E.set r B) := by show _ = _; rw [HNJ.out, if_neg (fun q => q.elim ha0 hb0), hmx, if_pos (.inl hc0)]
                                                have HR9 := Lib.hid (HSR.out _ B HR7.out)
                                                clear HNJ
                                                go_wp2_with fail
                                                go_roundw
                                                case rel => exact ⟨j + 1, by omega, by go_num, by rw [HE2.out, HF.out]; exact HR9.out⟩
                                                case measure => simp [intOf]; omega

                                              · have u4 : decide (C < 0) = false := decide_eq_false hc0
                                                by_cases hlt : B < C
                                                · have u5 : decide (B < C) = true := decide_eq_true hlt
                                                  have HF : Hid (E2 = E.set r B) := by show _ = _; rw [HNJ.out, if_neg (fun q => q.elim ha0 hb0), hmx, if_pos (.inr hlt)]
                                                  have HR9 := Lib.hid (HSR.out _ B HR7.out)
                                                  clear HNJ
                                                  go_wp2_with fail
                                                  go_roundw
                                                  case rel => exact ⟨j + 1, by omega, by go_num, by rw [HE2.out, HF.out]; exact HR9.out⟩
                                                  case measure => simp [intOf]; omega

                                                · have u5 : decide (B < C) = false := decide_eq_false hlt
                                                  have HF : Hid (E2 = E) := by show _ = _; rw [HNJ.out, if_neg (fun q => q.elim ha0 hb0), hmx, if_neg (fun q => q.elim hc0 hlt)]
                                                  clear HNJ
                                                  go_wp2_with fail
                                                  go_roundw
                                                  case rel => exact ⟨j + 1, by omega, by go_num, by rw [HE2.out, HF.out]; exact HR7.out⟩
                                                  case measure => simp [intOf]; omega

                                            · have u3 : decide (A < B) = false := decide_eq_false hba
                                              have hmx : max A B = A := by omega
                                              by_cases hc0 : C < 0
                                              · have u4 : decide (C < 0) = true := decide_eq_true hc0
                                                have HF : Hid (E2 = E.set r A) := by show _ = _; rw [HNJ.out, if_neg (fun q => q.elim ha0 hb0), hmx, if_pos (.inl hc0)]
                                                have HR9 := Lib.hid (HSR.out _ A HR7.out)
                                                clear HNJ
                                                go_wp2_with fail
                                                go_roundw
                                                case rel => exact ⟨j + 1, by omega, by go_num, by rw [HE2.out, HF.out]; exact HR9.out⟩
                                                case measure => simp [intOf]; omega

                                              · have u4 : decide (C < 0) = false := decide_eq_false hc0
                                                by_cases hlt : A < C
                                                · have u5 : decide (A < C) = true := decide_eq_true hlt
                                                  have HF : Hid (E2 = E.set r A) := by show _ = _; rw [HNJ.out, if_neg (fun q => q.elim ha0 hb0), hmx, if_pos (.inr hlt)]
                                                  have HR9 := Lib.hid (HSR.out _ A HR7.out)
                                                  clear HNJ
                                                  go_wp2_with fail
                                                  go_roundw
                                                  case rel => exact ⟨j + 1, by omega, by go_num, by rw [HE2.out, HF.out]; exact HR9.out⟩
                                                  case measure => simp [intOf]; omega

                                                · have u5 : decide (A < C) = false := decide_eq_false hlt
                                                  have HF : Hid (E2 = E) := by show _ = _; rw [HNJ.out, if_neg (fun q => q.elim ha0 hb0), hmx, if_neg (fun q => q.elim hc0 hlt)]
                                                  clear HNJ
                                                  go_wp2_with fail
                                                  go_roundw
                                                  case rel => exact ⟨j + 1, by omega, by go_num, by rw [HE2.out, HF.out]; exact HR7.out⟩
                                                  case measure => simp [intOf]; omega
                                · as_aux_lemma =>
                                    obtain rfl : j = k := by omega
                                    go_wp2_with fail
                                    go_roundw
                                    case rel => exact ⟨a + 1, by omega, by go_num, by rw [← HNA.out]; exact HRJ.out⟩
                                    case measure => simp [intOf]; omega
                          · as_aux_lemma =>
                              obtain rfl : a = k := by omega
                              go_wp2_with fail
                              go_roundw
                              case rel => exact ⟨kk + 1, by omega, by go_num, by rw [← HNK.out]; exact HRA.out⟩
                              case measure => simp [intOf]; omega
                    · as_aux_lemma =>
                        obtain rfl : kk = k := by omega
                        go_wp2_with fail
                        go_loopw [16] (fun s wz => ∃ x : Nat, x ≤ i ∧ s = .int .i64 x ∧ (∀ y, y < x → 0 ≤ (fwK kk l kk).getD y 0) ∧ RmG w wz i g c (fwK kk l kk)) (fun s _ => i - (intOf s).toNat)
                        case atStart => exact ⟨0, Nat.zero_le _, rfl, fun y hy => by omega, HRK.out⟩
                        case round =>
                          obtain ⟨x, hx, rfl, hall, hrf⟩ := hrel
                          have HALL := Lib.hid hall
                          have HRF := Lib.hid hrf
                          clear hall HRK hrf
                          by_cases hxi : x < i
                          · have y1 : (x : Int) < (i : Int) := by omega
                            obtain ⟨c1, _⟩ := HRF.out.cell hxi
                            have HNG : Hid ((fwK kk l kk).getD x 0 < 0 → matC kk l = 5) := fun h => matC_none HBIG.out H0.out HBB.out (fwK_neg HG.out HBB.out (by rw [HNN.out]; exact hxi) h)
                            have HPS : Hid (¬ (fwK kk l kk).getD x 0 < 0 → ∀ y, y < x + 1 → 0 ≤ (fwK kk l kk).getD y 0) := fun h y hy => by
                              by_cases e : y < x
                              · exact HALL.out y e
                              · obtain rfl : y = x := by omega
                                omega
                            generalize (fwK kk l kk).getD x 0 = X at *
                            by_cases hneg : X < 0
                            · as_aux_lemma =>
                                have u1 : decide (X < 0) = true := decide_eq_true hneg
                                have HC := Lib.hid (HNG.out hneg)
                                clear hneg HNG HPS
                                go_wp2_with fail
                                go_ret2
                                exact MtPost.no HC.out (by decide) HRF.out.bel
                            · as_aux_lemma =>
                                have u1 : decide (X < 0) = false := decide_eq_false hneg
                                have HP2 := Lib.hid (HPS.out hneg)
                                clear hneg HNG HPS
                                go_wp2_with fail
                                go_roundw
                                case rel => exact ⟨x + 1, by omega, by go_num, HP2.out, HRF.out⟩
                                case measure => simp [intOf]; omega
                          · obtain rfl : x = i := by omega
                            have HC : Hid (matC kk l = 0) := matC_ok HBIG.out H0.out HBB.out (fwK_pos HG.out HBB.out (fun y hy => HALL.out y (by rw [← HNN.out]; exact hy)))
                            go_wp2_with fail
                            go_ret2
                            refine ⟨fun h => absurd HC.out h, fun _ => ⟨some ⟨g, 0, none⟩, c, g, ?_, ?_⟩, HRF.out.bel⟩
                            · rw [Int.toNat_natCast, HNN.out]
                              rfl
                            · rw [Int.toNat_natCast, HNN.out]
                              exact ⟨HRF.out.len, fun _ => rfl, fun y hy => by rw [Nat.zero_add]; exact (HRF.out.cell hy).1⟩
  · have HC : Hid (matC n l = newErr n l) := matC_err HBIG.out h0
    have HZ := Lib.hid h0
    have t0 : (newErr n l != 0) = true := by simp [h0]
    clear h0
    generalize newErr n l = z at *
    go_wp2_with fail
    go_ret2
    exact MtPost.no HC.out HZ.out HB1.out

end Go.Proofs.YthacjealoomioaaDoor.Lk
