/- Several texts in one: RwI, RwK, RwF, RwC, RwN. -/
import Derived.Test.YtenhbfbfkcjimaaDoorZMgM
import Derived.Test.YtenhbfbfkcjimaaDoorZMgO
import Derived.Test.YtenhbfbfkcjimaaDoorZMmV
import Derived.OwnWalk
/- The reference of layer 20: Minimax. -/
namespace Go.Proofs.YtenhbfbfkcjimaaDoor
set_option linter.unusedVariables false
set_option linter.unusedSimpArgs false
open Go.RowKit

/-- The search among the first i edges: o is the distance. -/
structure MnI (l : List Ed) (o : Option Int) (i : Nat) (fd : Bool) (best : Int) : Prop where
  no : fd = false → best = 0 ∧ ∀ d, o = some d → ∀ e, e < i → ¬ d ≤ wI l e
  yes : fd = true → ∃ d, o = some d ∧ d ≤ best ∧ ∀ e, e < i → d ≤ wI l e → best ≤ wI l e

theorem MnI.start (l : List Ed) (o : Option Int) : MnI l o 0 false 0 := ⟨fun _ => ⟨rfl, fun _ _ e he => by omega⟩, fun h => (by cases h)⟩

theorem MnI.skip {l : List Ed} {o : Option Int} {i : Nat} {fd : Bool} {best : Int} (h : MnI l o i fd best) (hs : ∀ d, o = some d → d ≤ wI l i → fd = true ∧ best ≤ wI l i) : MnI l o (i + 1) fd best := by
  refine ⟨fun e => ⟨(h.no e).1, fun d hd x hx => ?_⟩, fun e => ?_⟩
  · by_cases hxi : x = i
    · intro hle
      rw [hxi] at hle
      have := (hs d hd hle).1
      rw [e] at this; cases this
    · exact (h.no e).2 d hd x (by omega)
  · obtain ⟨d, h1, h2, h3⟩ := h.yes e
    refine ⟨d, h1, h2, fun x hx hle => ?_⟩
    by_cases hxi : x = i
    · rw [hxi] at hle ⊢
      exact (hs d h1 hle).2
    · exact h3 x (by omega) hle

theorem MnI.take {l : List Ed} {o : Option Int} {i : Nat} {fd : Bool} {best d : Int} (h : MnI l o i fd best) (ho : o = some d) (hle : d ≤ wI l i) (hc : fd = false ∨ wI l i < best) : MnI l o (i + 1) true (wI l i) := by
  refine ⟨fun e => (by cases e), fun _ => ⟨d, ho, hle, fun x hx hx2 => ?_⟩⟩
  by_cases hxi : x = i
  · rw [hxi]; exact Int.le_refl _
  · rcases hc with hc | hc
    · exact absurd hx2 ((h.no hc).2 d ho x (by omega))
    · cases e : fd with
      | false => exact absurd hx2 ((h.no e).2 d ho x (by omega))
      | true =>
        obtain ⟨d', h1, _, h3⟩ := h.yes e
        rw [ho] at h1; injection h1 with h1; subst h1
        have := h3 x (by omega) hx2
        omega

/-- At the end: the distance. -/
theorem MnI.fin {n : Nat} {l : List Ed} (hg : GOk n l) {u v : Int} (hne : u ≠ v) {fd : Bool} {best : Int} (h : MnI l (mmV n l u v) l.length fd best) : Value.tuple #[.int .i64 best, .bool fd] = intR (mmV n l u v) := by
  unfold intR
  cases hm : mmV n l u v with
  | none =>
    rw [hm] at h
    cases e : fd with
    | false => rw [(h.no e).1]; rfl
    | true => obtain ⟨d, h1, _⟩ := h.yes e; cases h1
  | some d =>
    rw [hm] at h
    rw [mmV_ne hne] at hm
    obtain ⟨c, hc, hw⟩ := Option.map_eq_some_iff.1 hm
    have hl := (mV_fe hg hc).2.2
    cases e : fd with
    | false => exact absurd (Int.le_of_eq hw.symm) ((h.no e).2 d rfl _ hl)
    | true =>
      obtain ⟨d', h1, h2, h3⟩ := h.yes e
      injection h1 with h1
      subst h1
      have := h3 _ hl (Int.le_of_eq hw.symm)
      have hb : best = d := by omega
      rw [hb]; rfl

end Go.Proofs.YtenhbfbfkcjimaaDoor

/- The reference of layer 20: Minimax, the walk. -/
namespace Go.Proofs.YtenhbfbfkcjimaaDoor
set_option linter.unusedVariables false
set_option linter.unusedSimpArgs false
open Go.RowKit

set_option maxHeartbeats 16000000 in
set_option maxRecDepth 100000 in
theorem rminimax_ok (w : World) (f g n : Nat) (l : List Ed) (h : R2Obj w f g n l) (hg : GOk n l) (hw : WOk l) (u v : Int) :
    Calls Tryd.prog 23 #[.pointer (some ⟨f, 0, none⟩), .int .i64 u, .int .i64 v] w (RetB (intR (mmV n l u v)) w) := by
  have HR := Lib.hid h
  have HG := Lib.hid hg
  have HW := Lib.hid hw
  have f0 := h.f.cell (i := 0) rfl
  have hl4 := hg.hl
  clear h hg hw
  by_cases hu : 0 ≤ u ∧ u < n
  · have HU : Hid (inB u n = true) := by show _ = _; unfold inB; simp; omega
    by_cases hv : 0 ≤ v ∧ v < n
    · have HV : Hid (inB v n = true) := by show _ = _; unfold inB; simp; omega
      by_cases huv : u = v
      · subst huv
        have HM : Hid (intR (mmV n l u u) = .tuple #[.int .i64 (-9223372036854775808), .bool true]) := by show _ = _; rw [mmV_self hu]; rfl
        have t1 : (u == u) = true := by simp
        clear hu hv
        go_enter Tryd.func23, Tryd.ntmps23
        go_wp2_with fail
        with_reducible refine (r2has_ok w f g n l HR.out u).mono ?_
        rintro e w1 ⟨rfl, rfl⟩
        rw [HU.out]
        go_wp2_with fail
        with_reducible refine (r2has_ok w f g n l HR.out u).mono ?_
        rintro e w1 ⟨rfl, rfl⟩
        rw [HU.out]
        go_wp2_with fail
        go_ret2
        exact ⟨by rw [HM.out]; rfl, Below.refl _ _⟩
      · have t1 : (u == v) = false := by simp [huv]
        have HFIN : Hid (∀ fd best, MnI l (mmV n l u v) l.length fd best → Value.tuple #[.int .i64 best, .bool fd] = intR (mmV n l u v)) := fun fd best h => h.fin HG.out huv
        clear hu hv huv
        go_enter Tryd.func23, Tryd.ntmps23
        go_wp2_with fail
        with_reducible refine (r2has_ok w f g n l HR.out u).mono ?_
        rintro e w1 ⟨rfl, rfl⟩
        rw [HU.out]
        go_wp2_with fail
        with_reducible refine (r2has_ok w f g n l HR.out v).mono ?_
        rintro e w1 ⟨rfl, rfl⟩
        rw [HV.out]
        go_wp2_with fail
        with_reducible refine (redges_ok w g n l HR.out.g hl4).mono ?_
        rintro e w2 ⟨⟨ao, cap, b, rfl, her, _, _⟩, hb⟩
        have HB2 := Lib.hid hb
        have HE2 := Lib.hid her
        have HR2 := Lib.hid (HR.out.below hb)
        clear her hb t1 HR f0 HU HV
        obtain ⟨m, hm⟩ : ∃ m, l.length = m := ⟨_, rfl⟩
        rw [hm] at hl4 HFIN
        rw [hm]
        go_wp2_with fail
        go_loopw [8, 9, 11] (fun s8 s9 s11 wr => ∃ (i : Nat) (fd : Bool) (best : Int), i ≤ m ∧ s11 = .int .i64 i ∧ s8 = .bool fd ∧ s9 = .int .i64 best ∧ MnI l (mmV n l u v) i fd best ∧ Below w2.heap.size w2 wr) (fun _ _ s _ => m - (intOf s).toNat)
        case atStart => exact ⟨0, false, 0, Nat.zero_le _, rfl, rfl, rfl, MnI.start _ _, Below.refl _ _⟩
        case round =>
          obtain ⟨i, fd, best, hi, rfl, rfl, rfl, hmn, hbr⟩ := hrel
          have HMN := Lib.hid hmn
          have HBR := Lib.hid hbr
          clear hmn hbr
          by_cases him : i < m
          · have HER := Lib.hid (HE2.out.below HBR.out)
            have HRR := Lib.hid (HR2.out.below HBR.out)
            obtain ⟨d0, d1, d2⟩ := HER.out.cell i (by rw [hm]; exact him)
            rw [Nat.zero_add] at d2
            obtain rfl := HER.out.adr (by omega)
            have hWE : (EA l i).W = wI l i := rfl
            rw [hWE] at d2
            have hw64 := HW.out i (by rw [hm]; exact him)
            rw [hWE] at hw64
            have HSK : Hid (∀ fd best, MnI l (mmV n l u v) i fd best → (∀ d, mmV n l u v = some d → d ≤ wI l i → fd = true ∧ best ≤ wI l i) → MnI l (mmV n l u v) (i + 1) fd best) := fun fd best h hs => h.skip hs
            have HTK : Hid (∀ d, mmV n l u v = some d → d ≤ wI l i → (fd = false ∨ wI l i < best) → MnI l (mmV n l u v) (i + 1) true (wI l i)) := fun d ho hle hc => HMN.out.take ho hle hc
            have HJN : Hid (jnR n l u v (wI l i) = jnV n l u v (wI l i)) := jnR_jnV HG.out hw64.1
            have HJV : Hid (jnV n l u v (wI l i) = true → ∃ d, mmV n l u v = some d ∧ d ≤ wI l i) := fun h => by
              unfold jnV at h
              cases hm2 : mmV n l u v with
              | none => rw [hm2] at h; cases h
              | some d => rw [hm2] at h; exact ⟨d, rfl, of_decide_eq_true h⟩
            have HJF : Hid (jnV n l u v (wI l i) = false → ∀ d, mmV n l u v = some d → ¬ d ≤ wI l i) := fun h d hd hle => by
              unfold jnV at h
              rw [hd] at h
              exact absurd hle (of_decide_eq_false h)
            have t3 : (i : Int) < (m : Int) := by omega
            have t4 : (0 : Int) ≤ (i : Int) := by omega
            clear d0 d1 hWE hw64
            generalize wI l i = we at *
            go_wp2_with fail
            with_reducible refine (rjoined_ok wr f g n l HRR.out HG.out u v we).mono ?_
            rintro e w5 ⟨rfl, hb5⟩
            have HB5 := Lib.hid (bel_then HBR.out hb5)
            have HER5 := Lib.hid (HER.out.below hb5)
            have d5 := (hb5.cell (p := ⟨b, i * 3 + 2, none⟩) (World.block_lt_of_cell? wr _ d2)).trans d2
            rw [HJN.out]
            clear hb5 HER HRR HBR d2 HJN
            cases hj : jnV n l u v we with
            | false =>
              have HNX := Lib.hid (HSK.out _ _ HMN.out (fun d hd hle => by have := HJF.out hj d hd; omega))
              clear HSK HTK HJV HJF hj
              go_wp2_with fail
              go_roundw
              case rel => exact ⟨i + 1, fd, best, by omega, by go_num, rfl, rfl, HNX.out, HB5.out⟩
              case measure => simp [intOf]; omega
            | true =>
              obtain ⟨d, hd, hle⟩ := HJV.out hj
              cases fd with
              | false =>
                have HNX := Lib.hid (HTK.out d hd hle (.inl rfl))
                clear HSK HTK HJV HJF hj hd hle
                go_wp2_with fail
                go_roundw
                case rel => exact ⟨i + 1, true, we, by omega, by go_num, rfl, rfl, HNX.out, HB5.out⟩
                case measure => simp [intOf]; omega
              | true =>
                by_cases hlt : we < best
                · have t6 : decide (we < best) = true := decide_eq_true hlt
                  have HNX := Lib.hid (HTK.out d hd hle (.inr hlt))
                  clear HSK HTK HJV HJF hj hd hle hlt
                  go_wp2_with fail
                  go_roundw
                  case rel => exact ⟨i + 1, true, we, by omega, by go_num, rfl, rfl, HNX.out, HB5.out⟩
                  case measure => simp [intOf]; omega
                · have t6 : decide (we < best) = false := decide_eq_false hlt
                  have HNX := Lib.hid (HSK.out _ _ HMN.out (fun d hd hle => ⟨rfl, by omega⟩))
                  clear HSK HTK HJV HJF hj hd hle hlt
                  go_wp2_with fail
                  go_roundw
                  case rel => exact ⟨i + 1, true, best, by omega, by go_num, rfl, rfl, HNX.out, HB5.out⟩
                  case measure => simp [intOf]; omega
          · obtain rfl : i = m := by omega
            have HQ := Lib.hid (HFIN.out _ _ HMN.out)
            go_wp2_with fail
            go_ret2
            exact ⟨by rw [← HQ.out]; rfl, bel_then HB2.out HBR.out⟩
    · have HV : Hid (inB v n = false) := by show _ = _; unfold inB; simp; omega
      have HM : Hid (intR (mmV n l u v) = .tuple #[.int .i64 0, .bool false]) := by
        show _ = _
        cases hm : mmV n l u v with
        | none => rfl
        | some d => exact absurd (mmV_in hm).2 hv
      clear hu hv
      go_enter Tryd.func23, Tryd.ntmps23
      go_wp2_with fail
      with_reducible refine (r2has_ok w f g n l HR.out u).mono ?_
      rintro e w1 ⟨rfl, rfl⟩
      rw [HU.out]
      go_wp2_with fail
      with_reducible refine (r2has_ok w f g n l HR.out v).mono ?_
      rintro e w1 ⟨rfl, rfl⟩
      rw [HV.out]
      go_wp2_with fail
      go_ret2
      exact ⟨by rw [HM.out]; rfl, Below.refl _ _⟩
  · have HU : Hid (inB u n = false) := by show _ = _; unfold inB; simp; omega
    have HM : Hid (intR (mmV n l u v) = .tuple #[.int .i64 0, .bool false]) := by
      show _ = _
      cases hm : mmV n l u v with
      | none => rfl
      | some d => exact absurd (mmV_in hm).1 hu
    clear hu
    go_enter Tryd.func23, Tryd.ntmps23
    go_wp2_with fail
    with_reducible refine (r2has_ok w f g n l HR.out u).mono ?_
    rintro e w1 ⟨rfl, rfl⟩
    rw [HU.out]
    go_wp2_with fail
    go_ret2
    exact ⟨by rw [HM.out]; rfl, Below.refl _ _⟩

end Go.Proofs.YtenhbfbfkcjimaaDoor

/- The reference of layer 20: Farthest, Count. -/
namespace Go.Proofs.YtenhbfbfkcjimaaDoor
set_option linter.unusedVariables false
set_option linter.unusedSimpArgs false
open Go.RowKit

theorem FarOk.unique {n : Nat} {l : List Ed} {u : Int} {s s' : Far} (h : FarOk n l u s) (h' : FarOk n l u s') : s = s' := by
  cases e : s.ok with
  | false =>
    obtain ⟨h1, h2⟩ := h.no e
    cases e' : s'.ok with
    | false => rw [h1, (h'.no e').1]
    | true =>
      obtain ⟨a1, a2, a3, _⟩ := h'.yes e'
      rw [h2 _ a1 a2] at a3; cases a3
  | true =>
    obtain ⟨b1, b2, b3, b4⟩ := h.yes e
    cases e' : s'.ok with
    | false =>
      rw [(h'.no e').2 _ b1 b2] at b3; cases b3
    | true =>
      obtain ⟨a1, a2, a3, a4⟩ := h'.yes e'
      have p1 := b4 _ a1 a2 _ a3
      have p2 := a4 _ b1 b2 _ b3
      have ht : s.t = s'.t := by omega
      have hv : s.v = s'.v := by have := p1.2 ht.symm; have := p2.2 ht; omega
      cases s; cases s'
      simp only at ht hv e e'
      rw [ht, hv, e, e']

/-- The search among the first i vertices. -/
def farR' (n : Nat) (l : List Ed) (u i : Nat) : Far := (List.range i).foldl (farStep n l u) ⟨0, 0, false⟩
theorem farR'_succ (n : Nat) (l : List Ed) (u i : Nat) : farR' n l u (i + 1) = farStep n l u (farR' n l u i) i := by
  unfold farR'
  rw [List.range_succ, List.foldl_append]; rfl
theorem farR'_ok {n : Nat} {l : List Ed} (hg : GOk n l) {u : Nat} (hu : u < n) : farR' n l u n = farA n l u := by
  have h := farP_fold (n := n) (l := l) (u := u) (List.range n) [] ⟨0, 0, false⟩ ⟨fun _ => ⟨rfl, fun w hw => by cases hw⟩, fun e => by cases e⟩ List.pairwise_lt_range (fun y hy => by cases hy)
  rw [List.nil_append] at h
  refine FarOk.unique (n := n) (l := l) (u := (u : Int)) ⟨fun e => ⟨(h.no e).1, fun w hw hne => (h.no e).2 w (List.mem_range.2 hw) (by omega)⟩, fun e => ?_⟩ (farA_ok hg u)
  obtain ⟨h1, h2, h3, h4⟩ := h.yes e
  exact ⟨List.mem_range.1 h1, fun e => h2 (Int.ofNat.inj e), h3, fun w hw hne d hd => h4 w (List.mem_range.2 hw) (by omega) d hd⟩

set_option maxHeartbeats 16000000 in
set_option maxRecDepth 100000 in
theorem rfarthest_ok (w : World) (f g n : Nat) (l : List Ed) (h : R2Obj w f g n l) (hg : GOk n l) (hw : WOk l) (u : Int) :
    Calls Tryd.prog 28 #[.pointer (some ⟨f, 0, none⟩), .int .i64 u] w (RetB (farR (farA n l u)) w) := by
  have HR := Lib.hid h
  have HG := Lib.hid hg
  have HW := Lib.hid hw
  have hn4 := hg.hn
  clear h hg hw
  by_cases hu : 0 ≤ u ∧ u < n
  · have HU : Hid (inB u n = true) := by show _ = _; unfold inB; simp; omega
    obtain ⟨a, rfl⟩ := Int.eq_ofNat_of_zero_le hu.1
    have HF : Hid (farR' n l a n = farA n l a) := farR'_ok HG.out (by omega)
    clear hu
    go_enter Tryd.func28, Tryd.ntmps28
    go_wp2_with fail
    with_reducible refine (r2has_ok w f g n l HR.out a).mono ?_
    rintro e w1 ⟨rfl, rfl⟩
    rw [HU.out]
    go_wp2_with fail
    go_loopw [7, 8, 9, 10] (fun s7 s8 s9 s10 wr => ∃ i : Nat, i ≤ n ∧ s10 = .int .i64 i ∧ s7 = .bool (farR' n l a i).ok ∧ s8 = .int .i64 ((farR' n l a i).v : Int) ∧ s9 = .int .i64 (farR' n l a i).t ∧ Below w.heap.size w wr) (fun _ _ _ s _ => n - (intOf s).toNat)
    case atStart => exact ⟨0, Nat.zero_le _, rfl, rfl, rfl, rfl, Below.refl _ _⟩
    case round =>
      obtain ⟨i, hi, rfl, rfl, rfl, rfl, hbr⟩ := hrel
      have HBR := Lib.hid hbr
      have HRR := Lib.hid (HR.out.below hbr)
      have f0 := HRR.out.f.cell (i := 0) rfl
      clear hbr
      by_cases hin : i < n
      · have t1 : (i : Int) < (n : Int) := by omega
        have HSU := Lib.hid (farR'_succ n l a i)
        obtain ⟨s, hs⟩ : ∃ s, farR' n l a i = s := ⟨_, rfl⟩
        obtain ⟨s', hs'⟩ : ∃ s, farR' n l a (i + 1) = s := ⟨_, rfl⟩
        have HS' := Lib.hid hs'
        rw [hs, hs'] at HSU
        rw [hs]
        clear hs hs'
        obtain ⟨sv, st, so⟩ := s
        simp only
        go_wp2_with fail
        with_reducible refine (rcount_ok wr g n l HRR.out.g).mono ?_
        rintro e w4 ⟨rfl, rfl⟩
        go_wp2_with fail
        with_reducible refine (rminimax_ok wr f g n l HRR.out HG.out HW.out a i).mono ?_
        rintro e w5 ⟨rfl, hb5⟩
        have HB5 := Lib.hid (bel_then HBR.out hb5)
        clear hb5 HRR HBR f0
        unfold intR
        cases hmm : mmV n l (a : Int) (i : Int) with
        | none =>
          have hq : s' = ⟨sv, st, so⟩ := by rw [HSU.out]; unfold farStep; rw [hmm]
          clear hmm HSU
          subst hq
          simp only [Option.getD_none, Option.isSome_none]
          go_wp2_with fail
          go_roundw
          case rel => exact ⟨i + 1, by omega, by go_num, by rw [HS'.out], by rw [HS'.out], by rw [HS'.out], HB5.out⟩
          case measure => simp [intOf]; omega
        | some d =>
          have HFD : Hid (s' = if i ≠ a ∧ (so = false ∨ st < d) then ⟨i, d, true⟩ else ⟨sv, st, so⟩) := by
            show _ = _
            rw [HSU.out]; unfold farStep; rw [hmm]
          clear hmm HSU
          simp only [Option.getD_some, Option.isSome_some]
          by_cases hia : i = a
          · have t2 : ((i : Int) != (a : Int)) = false := by simp [hia]
            have hq := HFD.out
            rw [if_neg (fun h => h.1 hia)] at hq
            clear HFD hia
            subst hq
            go_wp2_with fail
            go_roundw
            case rel => exact ⟨i + 1, by omega, by go_num, by rw [HS'.out], by rw [HS'.out], by rw [HS'.out], HB5.out⟩
            case measure => simp [intOf]; omega
          · have t2 : ((i : Int) != (a : Int)) = true := by simp; omega
            cases so with
            | false =>
              have hq := HFD.out
              rw [if_pos ⟨hia, .inl rfl⟩] at hq
              clear HFD hia
              subst hq
              go_wp2_with fail
              go_roundw
              case rel => exact ⟨i + 1, by omega, by go_num, by rw [HS'.out], by rw [HS'.out], by rw [HS'.out], HB5.out⟩
              case measure => simp [intOf]; omega
            | true =>
              by_cases hlt : st < d
              · have t6 : decide (st < d) = true := decide_eq_true hlt
                have hq := HFD.out
                rw [if_pos ⟨hia, .inr hlt⟩] at hq
                clear HFD hia hlt
                subst hq
                go_wp2_with fail
                go_roundw
                case rel => exact ⟨i + 1, by omega, by go_num, by rw [HS'.out], by rw [HS'.out], by rw [HS'.out], HB5.out⟩
                case measure => simp [intOf]; omega
              · have t6 : decide (st < d) = false := decide_eq_false hlt
                have hq := HFD.out
                rw [if_neg (fun h => by rcases h.2 with h | h; cases h; exact hlt h)] at hq
                clear HFD hia hlt
                subst hq
                go_wp2_with fail
                go_roundw
                case rel => exact ⟨i + 1, by omega, by go_num, by rw [HS'.out], by rw [HS'.out], by rw [HS'.out], HB5.out⟩
                case measure => simp [intOf]; omega
      · obtain rfl : i = n := by omega
        rw [HF.out]
        go_wp2_with fail
        with_reducible refine (rcount_ok wr g i l HRR.out.g).mono ?_
        rintro e w4 ⟨rfl, rfl⟩
        go_wp2_with fail
        go_ret3
        exact ⟨rfl, HBR.out⟩
  · have HU : Hid (inB u n = false) := by show _ = _; unfold inB; simp; omega
    have HA : Hid (farR (farA n l u) = .tuple #[.int .i64 0, .int .i64 0, .bool false]) := by show _ = _; unfold farA; rw [if_neg hu]; rfl
    clear hu
    go_enter Tryd.func28, Tryd.ntmps28
    go_wp2_with fail
    with_reducible refine (r2has_ok w f g n l HR.out u).mono ?_
    rintro e w1 ⟨rfl, rfl⟩
    rw [HU.out]
    go_wp2_with fail
    go_ret3
    exact ⟨by rw [HA.out]; rfl, Below.refl _ _⟩

end Go.Proofs.YtenhbfbfkcjimaaDoor

/- The reference of layer 20: Count. -/
namespace Go.Proofs.YtenhbfbfkcjimaaDoor
set_option linter.unusedVariables false
set_option linter.unusedSimpArgs false
open Go.RowKit

def labF (n : Nat) (l : List Ed) (th : Int) (v : Nat) : Nat := (labT n l th).getD v 0
theorem lab_pr {n : Nat} {l : List Ed} (hg : GOk n l) (th : Int) : prT (labF n l th) n = cntT (bdL n l) n th (n + FN n l) := by
  rw [cnt_pr (bdL_tv3 hg)]
  have key : ∀ u v, u < v → v < n → (labF n l th u = labF n l th v ↔ ab (bdL n l) (n + FN n l) th u = ab (bdL n l) (n + FN n l) th v) := fun u v huv hv => by
    rw [ab_mm hg th (show u < n by omega) hv (show u ≠ v by omega)]
    exact (mm_iff hg (show u < n by omega) hv (show u ≠ v by omega) th).symm
  exact Nat.le_antisymm (prT_mono (n := n) (fun u v h1 h2 e => (key u v h1 h2).1 e) n (Nat.le_refl _)) (prT_mono (n := n) (fun u v h1 h2 e => (key u v h1 h2).2 e) n (Nat.le_refl _))

set_option maxHeartbeats 16000000 in
set_option maxRecDepth 100000 in
theorem r2count_ok (w : World) (f g n : Nat) (l : List Ed) (h : R2Obj w f g n l) (hg : GOk n l) (th : Int) :
    Calls Tryd.prog 29 #[.pointer (some ⟨f, 0, none⟩), .int .i64 th] w (RetB (.int .i64 ((cntT (bdL n l) n th (n + FN n l) : Nat) : Int)) w) := by
  have HR := Lib.hid h
  have HG := Lib.hid hg
  have HC := Lib.hid (lab_pr hg th)
  have f0 := h.f.cell (i := 0) rfl
  have hn4 := hg.hn
  clear h hg
  go_enter Tryd.func29, Tryd.ntmps29
  go_wp2_with fail
  with_reducible refine (runder_ok w g n l HR.out.g HG.out.hl th).mono ?_
  rintro e w2 ⟨⟨g2, rfl, hg2⟩, hb2⟩
  have HG2 := Lib.hid hg2
  have HB2 := Lib.hid hb2
  clear hg2 hb2 f0
  go_wp2_with fail
  with_reducible refine (rlabels_ok w2 g2 n (undL l th) HG2.out (und_ok HG.out th)).mono ?_
  rintro e w3 ⟨⟨K, val, rfl, hK, hown, hnew⟩, hb3⟩
  have HB3 := Lib.hid (bel_then HB2.out hb3)
  have hKl := hK.len
  obtain rfl := lab_und HG.out hK
  obtain ⟨ao, cap, b, rfl, hin, _⟩ := own_rowN hown hKl
  have HROW := Lib.hid hin
  have HKL := Lib.hid hKl
  clear hK hown hnew hb3 hKl HG2 HB2 hin
  go_wp2_with fail
  go_loopw [5, 7] (fun s5 s7 wr => ∃ v : Nat, v ≤ n ∧ s7 = .int .i64 v ∧ s5 = .int .i64 ((prT (labF n l th) v : Nat) : Int) ∧ Mod (fun _ => False) w3 wr) (fun _ s _ => n - (intOf s).toNat)
  case atStart => exact ⟨0, Nat.zero_le _, rfl, rfl, Mod.refl _ _⟩
  case round =>
    obtain ⟨v, hv, rfl, rfl, hmd⟩ := hrel
    have HMD := Lib.hid hmd
    clear hmd
    by_cases hvn : v < n
    · have t1 : (v : Int) < (n : Int) := by omega
      have hpr : prT (labF n l th) v ≤ 16777216 := Nat.le_trans (prT_le _ v) (Nat.mul_le_mul (show v ≤ 4096 by omega) (show v ≤ 4096 by omega))
      have hnx : Hid (prT (labF n l th) (v + 1) = prT (labF n l th) v + inP (labF n l th) v v) := rfl
      generalize prT (labF n l th) v = r0 at *
      go_wp2_with fail
      go_loopw [5, 8] (fun s5 s8 wr => ∃ u : Nat, u ≤ v ∧ s8 = .int .i64 u ∧ s5 = .int .i64 ((r0 + inP (labF n l th) v u : Nat) : Int) ∧ Mod (fun _ => False) w3 wr) (fun _ s _ => v - (intOf s).toNat)
      case atStart => exact ⟨0, Nat.zero_le _, rfl, rfl, HMD.out⟩
      case round =>
        obtain ⟨u, hu, rfl, rfl, hmd2⟩ := hrel
        clear HMD
        have HMD := Lib.hid hmd2
        have HRW := Lib.hid (HROW.out.mod hmd2 (fun _ h => h))
        clear hmd2
        by_cases huv : u < v
        · have hin : inP (labF n l th) v u ≤ 4096 := Nat.le_trans (inP_le _ v u) (by omega)
          have HIS := Lib.hid (inP_succ (labF n l th) v u)
          have q0 := HRW.out.cell u (by omega)
          have q1 := HRW.out.cell v hvn
          rw [nI_at (by rw [HKL.out]; omega), Nat.zero_add] at q0
          rw [nI_at (by rw [HKL.out]; exact hvn), Nat.zero_add] at q1
          obtain rfl := HRW.out.adr (by omega)
          have hq0 : (labT n l th).getD u 0 = labF n l th u := rfl
          have hq1 : (labT n l th).getD v 0 = labF n l th v := rfl
          rw [hq0] at q0
          rw [hq1] at q1
          have t2 : (u : Int) < (v : Int) := by omega
          have t3 : (u : Int) < (n : Int) := by omega
          have t4 : (0 : Int) ≤ (u : Int) := by omega
          have t5 : (0 : Int) ≤ (v : Int) := by omega
          clear hq0 hq1
          generalize inP (labF n l th) v u = c0 at *
          generalize labF n l th u = ku at *
          by_cases hk : ku = labF n l th v
          · have hc1 : inP (labF n l th) v (u + 1) = c0 + 1 := by have := HIS.out; rw [if_pos hk] at this; exact this
            have t6 : ((ku : Int) == ((labF n l th v : Nat) : Int)) = true := by simp [hk]
            generalize labF n l th v = kv at *
            clear hk HIS
            go_wp2_with fail
            go_quiet (fail)
            go_wp2_with fail
            go_roundw
            case rel => exact ⟨u + 1, by omega, by go_num, by rw [hc1]; go_num, HMD.out.drewN _⟩
            case measure => simp [intOf]; omega
          · have hc1 : inP (labF n l th) v (u + 1) = c0 := by have := HIS.out; rw [if_neg hk] at this; omega
            have t6 : ((ku : Int) == ((labF n l th v : Nat) : Int)) = false := by simp; omega
            generalize labF n l th v = kv at *
            clear hk HIS
            go_wp2_with fail
            go_quiet (fail)
            go_wp2_with fail
            go_roundw
            case rel => exact ⟨u + 1, by omega, by go_num, by rw [hc1], HMD.out.drewN _⟩
            case measure => simp [intOf]; omega
        · obtain rfl : u = v := by omega
          go_wp2_with fail
          go_roundw
          case rel => exact ⟨u + 1, by omega, by go_num, by rw [hnx.out], HMD.out⟩
          case measure => simp [intOf]; omega
    · obtain rfl : v = n := by omega
      rw [HC.out]
      go_wp2_with fail
      go_ret
      exact ⟨rfl, bel_then HB3.out (HMD.out.below (Nat.le_refl _) (fun _ h => h.elim))⟩

end Go.Proofs.YtenhbfbfkcjimaaDoor

/- The reference of layer 20 at a nil finder. -/
namespace Go.Proofs.YtenhbfbfkcjimaaDoor
set_option linter.unusedVariables false
set_option linter.unusedSimpArgs false
open Go.RowKit

set_option maxHeartbeats 400000 in
theorem r2has_nil (w : World) (v : Int) : Calls Tryd.prog 35 #[.pointer none, .int .i64 v] w (Ret (.bool false) w) := by
  go_enter Tryd.func35, Tryd.ntmps35
  go_wp2_with fail
  go_ret
  exact ⟨rfl, rfl⟩

set_option maxHeartbeats 400000 in
theorem rjoined_nil (w : World) (u v th : Int) : Calls Tryd.prog 26 #[.pointer none, .int .i64 u, .int .i64 v, .int .i64 th] w (RetB (.bool false) w) := by
  go_enter Tryd.func26, Tryd.ntmps26
  go_wp2_with fail
  with_reducible refine (r2has_nil w u).mono ?_
  rintro e w1 ⟨rfl, rfl⟩
  go_wp2_with fail
  go_ret
  exact ⟨rfl, Below.refl _ _⟩

set_option maxHeartbeats 400000 in
theorem rminimax_nil (w : World) (u v : Int) : Calls Tryd.prog 23 #[.pointer none, .int .i64 u, .int .i64 v] w (RetB (.tuple #[.int .i64 0, .bool false]) w) := by
  go_enter Tryd.func23, Tryd.ntmps23
  go_wp2_with fail
  with_reducible refine (r2has_nil w u).mono ?_
  rintro e w1 ⟨rfl, rfl⟩
  go_wp2_with fail
  go_ret2
  exact ⟨rfl, Below.refl _ _⟩

set_option maxHeartbeats 400000 in
theorem redge_nil (w : World) (u v : Int) : Calls Tryd.prog 24 #[.pointer none, .int .i64 u, .int .i64 v] w (RetB (.tuple #[.int .i64 0, .bool false]) w) := by
  go_enter Tryd.func24, Tryd.ntmps24
  go_wp2_with fail
  with_reducible refine (r2has_nil w u).mono ?_
  rintro e w1 ⟨rfl, rfl⟩
  go_wp2_with fail
  go_ret2
  exact ⟨rfl, Below.refl _ _⟩

set_option maxHeartbeats 400000 in
theorem rpath_nil (w : World) (u v : Int) : Calls Tryd.prog 19 #[.pointer none, .int .i64 u, .int .i64 v] w (RetB (.slice none 0 0) w) := by
  go_enter Tryd.func19, Tryd.ntmps19
  go_wp2_with fail
  with_reducible refine (r2has_nil w u).mono ?_
  rintro e w1 ⟨rfl, rfl⟩
  go_wp2_with fail
  go_ret
  exact ⟨rfl, Below.refl _ _⟩

set_option maxHeartbeats 400000 in
theorem rfarthest_nil (w : World) (u : Int) : Calls Tryd.prog 28 #[.pointer none, .int .i64 u] w (RetB (.tuple #[.int .i64 0, .int .i64 0, .bool false]) w) := by
  go_enter Tryd.func28, Tryd.ntmps28
  go_wp2_with fail
  with_reducible refine (r2has_nil w u).mono ?_
  rintro e w1 ⟨rfl, rfl⟩
  go_wp2_with fail
  go_ret3
  exact ⟨rfl, Below.refl _ _⟩

set_option maxHeartbeats 400000 in
theorem r2count_nil (w : World) (th : Int) : Calls Tryd.prog 29 #[.pointer none, .int .i64 th] w (RetB (.int .i64 0) w) := by
  go_enter Tryd.func29, Tryd.ntmps29
  go_wp2_with fail
  go_ret
  exact ⟨rfl, Below.refl _ _⟩

end Go.Proofs.YtenhbfbfkcjimaaDoor
