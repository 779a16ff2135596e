/- DmK, DmM. -/
import Derived.Test.YthacjealoomioaaGreatDoorZGm
import Derived.Test.YthacjealoomioaaGreatDoorZGc2
/- The library's stable sort: symMerge at large; stableCmpFunc, SortStableFunc. -/
namespace Go.Proofs.YthacjealoomioaaGreatDoor
set_option linter.unusedVariables false
set_option linter.unusedSimpArgs false
open Go.RowKit Go.Shelf

theorem Mrg.crs {key : Nat → Int} {f g : Nat → Nat} {a b : Nat} (h : Mrg key a b f g) {P : Nat → Prop} (hP : ∀ x, a ≤ x → x < b → P (f x)) : ∀ x, a ≤ x → x < b → P (g x) := fun x h1 h2 => by
  obtain ⟨⟨s, s1, s2⟩, _⟩ := h
  rw [s2]
  have := s1.inn x h1 h2
  exact hP _ this.1 this.2

set_option maxHeartbeats 16000000 in
set_option maxRecDepth 100000 in
theorem symR_ok (N cap ob : Nat) (hN : N ≤ 1000000) (fk : Nat) (cb : Array Value) (eg : ∀ args w, (callFunc fk args).run Tryz.prog w = .ok (.enter fk args) w) (P : Nat → Prop) (key : Nat → Int) :
    ∀ (d a m b : Nat), b - a ≤ d → a < m → m < b → b ≤ N → ∀ (f : Nat → Nat) (w : World), Blk w ob 3 (natV (rowF N f)) → CmpOn w ob fk cb P key → (∀ x, x < N → P (f x)) → Srt key f a m → Srt key f m b → Crs f a m b →
    Calls Tryz.prog 124 #[.slice (some ⟨ob, 0, none⟩) N cap, .int .i64 (a : Int), .int .i64 (m : Int), .int .i64 (b : Int), .func (.func fk) #[] cb] w (StPost key w ob N f a b) := by
  intro d
  induction d using Nat.strongRecOn with
  | _ d ih =>
  intro a m b hd h1 h2 h3 f w hb hcmp hP hs1 hs2 hx
  by_cases e1 : m = a + 1
  · subst e1
    exact symA_ok w ob N cap f hb a b h2 h3 hN fk cb eg P key hcmp hP hs2 hx
  by_cases e2 : b = m + 1
  · subst e2
    exact symB_ok w ob N cap f hb a m (by omega) h3 hN fk cb eg P key hcmp hP hs1 hx
  have HIH := Lib.hid ih
  have HB := Lib.hid hb
  have HC := Lib.hid hcmp
  have HP := Lib.hid hP
  have HS1 := Lib.hid hs1
  have HS2 := Lib.hid hs2
  have HX := Lib.hid hx
  have HD := Lib.hid hd
  clear ih hb hcmp hP hs1 hs2 hx hd
  obtain ⟨S, HSS⟩ : ∃ S, Hid (a + b = S) := ⟨_, rfl⟩
  obtain ⟨mid, HMID⟩ : ∃ mid, Hid (S / 2 = mid) := ⟨_, rfl⟩
  obtain ⟨nn, HNN⟩ : ∃ nn, Hid (mid + m = nn) := ⟨_, rfl⟩
  obtain ⟨p, HPP⟩ : ∃ p, Hid (nn - 1 = p) := ⟨_, rfl⟩
  have ham : a < mid := by have := HSS.out; have := HMID.out; omega
  have hmb : mid < b := by have := HSS.out; have := HMID.out; omega
  obtain ⟨ma, HMA⟩ : ∃ ma, Hid (m - a = ma) := ⟨_, rfl⟩
  obtain ⟨bm, HBM⟩ : ∃ bm, Hid (b - m = bm) := ⟨_, rfl⟩
  have s1 : IntKind.i64.wrap ((m : Int) - (a : Int)) = (ma : Int) := by have := HMA.out; rw [IntWalk.i64_in _ (by omega)]; omega
  have s2 : ((ma : Int) == 1) = false := by have := HMA.out; simp; omega
  have s3 : IntKind.i64.wrap ((b : Int) - (m : Int)) = (bm : Int) := by have := HBM.out; rw [IntWalk.i64_in _ (by omega)]; omega
  have s4 : ((bm : Int) == 1) = false := by have := HBM.out; simp; omega
  have v1 : IntKind.i64.wrap ((a : Int) + (b : Int)) = (S : Int) := by have := HSS.out; rw [IntWalk.i64_in _ (by omega)]; omega
  have v2 : IntKind.u64.wrap (S : Int) = (S : Int) := IntWalk.u64_in _ (by have := HSS.out; omega)
  have v3 : (S : Int) / 2 = (mid : Int) := by have := HMID.out; omega
  have v4 : IntKind.u64.wrap (mid : Int) = (mid : Int) := IntWalk.u64_in _ (by omega)
  have v5 : IntKind.i64.wrap (mid : Int) = (mid : Int) := IntWalk.i64_in _ (by omega)
  have v6 : IntKind.i64.wrap ((mid : Int) + (m : Int)) = (nn : Int) := by have := HNN.out; rw [IntWalk.i64_in _ (by omega)]; omega
  have v7 : IntKind.i64.wrap ((nn : Int) - 1) = (p : Int) := by have := HNN.out; have := HPP.out; rw [IntWalk.i64_in _ (by omega)]; omega
  go_enter Tryz.func124, Tryz.ntmps124
  go_upto_if 140 with fail
  clear s1 s2 s3 s4 v1 v2 v3 v4 v5
  obtain ⟨s0, HS0⟩ : ∃ s0, Hid ((if mid < m then nn - b else a) = s0) := ⟨_, rfl⟩
  obtain ⟨r0, HR0⟩ : ∃ r0, Hid ((if mid < m then mid else m) = r0) := ⟨_, rfl⟩
  go_cut [20, 21] (fun s t wx => s = .int .i64 (s0 : Int) ∧ t = .int .i64 (r0 : Int) ∧ w = wx)
  case first =>
    by_cases c : mid < m
    · as_aux_lemma =>
        have e1 : nn - b = s0 := by have := HS0.out; rw [if_pos c] at this; exact this
        have e2 : mid = r0 := by have := HR0.out; rw [if_pos c] at this; exact this
        have u1 : IntKind.i64.wrap ((nn : Int) - (b : Int)) = (s0 : Int) := by have := HNN.out; have := HSS.out; have := HMID.out; rw [IntWalk.i64_in _ (by omega)]; omega
        clear e1
        subst e2
        go_wp2_with fail
        go_meet
        exact ⟨rfl, rfl, rfl⟩
    · as_aux_lemma =>
        have e1 : a = s0 := by have := HS0.out; rw [if_neg c] at this; exact this
        have e2 : m = r0 := by have := HR0.out; rw [if_neg c] at this; exact this
        go_wp2_with fail
        go_meet
        exact ⟨by rw [e1], by rw [e2], rfl⟩
  case rest =>
    obtain ⟨rfl, rfl, rfl⟩ := hcut
    obtain ⟨hs0a, hsr, hr0m, hpc⟩ : a ≤ s0 ∧ s0 ≤ r0 ∧ r0 ≤ m ∧ (∀ c, s0 ≤ c → c < r0 → m ≤ p - c ∧ p - c < b ∧ c ≤ p) := by
      have a1 := HS0.out; have a2 := HR0.out; have := HNN.out; have := HSS.out; have := HMID.out; have := HPP.out
      by_cases c : mid < m
      · rw [if_pos c] at a1 a2
        exact ⟨by omega, by omega, by omega, fun c k1 k2 => by omega⟩
      · rw [if_neg c] at a1 a2
        exact ⟨by omega, by omega, by omega, fun c k1 k2 => by omega⟩
    have HPC := Lib.hid hpc
    clear hpc
    go_wp2_with fail
    clear v7
    go_loopw [20, 21] (fun s t wr => ∃ i j : Nat, s = .int .i64 (i : Int) ∧ t = .int .i64 (j : Int) ∧ (s0 ≤ i ∧ i ≤ j ∧ j ≤ r0) ∧ Blk wr ob 3 (natV (rowF N f)) ∧ Mod (fun x => x = ob) w wr ∧ Hid (Cut key f s0 r0 p i j)) (fun s t _ => (intOf t).toNat - (intOf s).toNat)
    case atStart => exact ⟨s0, r0, rfl, rfl, ⟨Nat.le_refl _, hsr, Nat.le_refl _⟩, HB.out, Mod.refl _ _, ⟨Nat.le_refl _, hsr, Nat.le_refl _, fun c k1 k2 => by omega, fun c k1 k2 => by omega⟩⟩
    case round =>
      obtain ⟨i, j, rfl, rfl, ⟨i1, i2, i3⟩, hb, hm, HI⟩ := hrel
      clear HB
      have HB := Lib.hid hb
      have HM := Lib.hid hm
      clear hb hm
      by_cases hij : i < j
      · obtain ⟨T, HTT⟩ : ∃ T, Hid (i + j = T) := ⟨_, rfl⟩
        obtain ⟨h, HH⟩ : ∃ h, Hid (T / 2 = h) := ⟨_, rfl⟩
        have hih : i ≤ h := by have := HTT.out; have := HH.out; omega
        have hhj : h < j := by have := HTT.out; have := HH.out; omega
        obtain ⟨q, HQ⟩ : ∃ q, Hid (p - h = q) := ⟨_, rfl⟩
        obtain ⟨pc1, pc2, pc3⟩ := HPC.out h (by omega) (by omega)
        have hqm : m ≤ q := by have := HQ.out; omega
        have hqb : q < b := by have := HQ.out; omega
        have v1 : IntKind.i64.wrap ((i : Int) + (j : Int)) = (T : Int) := by have := HTT.out; rw [IntWalk.i64_in _ (by omega)]; omega
        have v2 : IntKind.u64.wrap (T : Int) = (T : Int) := IntWalk.u64_in _ (by have := HTT.out; omega)
        have v3 : (T : Int) / 2 = (h : Int) := by have := HH.out; omega
        have v4 : IntKind.u64.wrap (h : Int) = (h : Int) := IntWalk.u64_in _ (by omega)
        have v5 : IntKind.i64.wrap (h : Int) = (h : Int) := IntWalk.i64_in _ (by omega)
        have v6' : IntKind.i64.wrap ((h : Int) + 1) = ((h + 1 : Nat) : Int) := by rw [IntWalk.i64_in _ (by omega)]; omega
        have v7 : IntKind.i64.wrap ((p : Int) - (h : Int)) = (q : Int) := by have := HQ.out; rw [IntWalk.i64_in _ (by omega)]; omega
        have c1 := row_cell HB.out (x := h) (by omega)
        have c2 := row_cell HB.out (x := q) (by omega)
        have hc := fun n => HC.out _ (HM.out.drewN n) (f q) (f h) (HP.out q (by omega)) (HP.out h (by omega))
        have g0 : (0 : Int) ≤ (h : Int) := by omega
        have g1 : (h : Int) < (N : Int) := by omega
        have g2 : (0 : Int) ≤ (q : Int) := by omega
        have g3 : (q : Int) < (N : Int) := by omega
        clear pc1 pc2 pc3
        by_cases hlt : key (f q) < key (f h)
        · as_aux_lemma =>
            have HI2 : Hid (Cut key f s0 r0 p i h) := by
              refine ⟨i1, hih, by omega, HI.out.a, fun c k1 k2 => ?_⟩
              obtain ⟨pc1, pc2, pc3⟩ := HPC.out c (by omega) k2
              have e1 := HS2.out.le pc1 (show p - c ≤ q by have := HQ.out; omega) hqb
              have e2 := HS1.out.le (show a ≤ h by omega) k1 (by omega)
              omega
            have tl : decide (cmpI (key (f q)) (key (f h)) < 0) = true := decide_eq_true (cmpI_neg.2 hlt)
            clear hlt HI
            generalize cmpI (key (f q)) (key (f h)) = c at hc tl
            obtain ⟨u, hu⟩ : ∃ u, f h = u := ⟨_, rfl⟩
            obtain ⟨v, hv⟩ : ∃ v, f q = v := ⟨_, rfl⟩
            rw [hu] at c1 hc
            rw [hv] at c2 hc
            clear hu hv
            go_wp2_with fail
            go_quiet (first | (go_at_fn fk; refine Calls.quiet_of (hc _)))
            go_wp2_with fail
            go_roundw
            case rel => exact ⟨i, h, by first | rfl | go_num, by first | rfl | go_num, ⟨by omega, by omega, by omega⟩, HB.out.drewN nq, HM.out.drewN nq, HI2⟩
            case measure => simp [intOf]; omega
        · as_aux_lemma =>
            have HI2 : Hid (Cut key f s0 r0 p (h + 1) j) := by
              refine ⟨by omega, by omega, i3, fun c k1 k2 => ?_, HI.out.b⟩
              obtain ⟨pc1, pc2, pc3⟩ := HPC.out c k1 (by omega)
              have e1 := HS2.out.le hqm (show q ≤ p - c by have := HQ.out; omega) pc2
              have e2 := HS1.out.le (show a ≤ c by omega) (show c ≤ h by omega) (by omega)
              omega
            have tl : decide (cmpI (key (f q)) (key (f h)) < 0) = false := decide_eq_false (fun h => hlt (cmpI_neg.1 h))
            clear hlt HI
            generalize cmpI (key (f q)) (key (f h)) = c at hc tl
            obtain ⟨u, hu⟩ : ∃ u, f h = u := ⟨_, rfl⟩
            obtain ⟨v, hv⟩ : ∃ v, f q = v := ⟨_, rfl⟩
            rw [hu] at c1 hc
            rw [hv] at c2 hc
            clear hu hv
            go_wp2_with fail
            go_quiet (first | (go_at_fn fk; refine Calls.quiet_of (hc _)))
            go_wp2_with fail
            go_roundw
            case rel => exact ⟨h + 1, j, by first | rfl | go_num, by first | rfl | go_num, ⟨by omega, by omega, by omega⟩, HB.out.drewN nq, HM.out.drewN nq, HI2⟩
            case measure => simp [intOf]; omega
      · obtain rfl : i = j := by omega
        obtain ⟨E, HEE⟩ : ∃ E, Hid (nn - i = E) := ⟨_, rfl⟩
        have hsp := split_ok (key := key) (f := f) (a := a) (m := m) (b := b) (mid := mid) (s := i) h1 h2 (by rw [HSS.out]; exact HMID.out.symm) HS1.out HS2.out HX.out (by rw [HNN.out, HPP.out, HS0.out, HR0.out]; exact HI.out)
        rw [HNN.out, HEE.out] at hsp
        obtain ⟨b1, b2, b3, b4, b5, b6, ⟨p1, p2, p3⟩, ⟨q1, q2, q3⟩, hjn⟩ := hsp
        have HP1 := Lib.hid (And.intro p1 (And.intro p2 p3))
        have HQ1 := Lib.hid (And.intro q1 (And.intro q2 q3))
        have HJN := Lib.hid hjn
        have HEQ : Hid (nn = i + E) := by show _ = _; have := HEE.out; have := HNN.out; omega
        have v1 : IntKind.i64.wrap ((nn : Int) - (i : Int)) = (E : Int) := by have := HEE.out; have := HNN.out; rw [IntWalk.i64_in _ (by omega)]; omega
        clear p1 p2 p3 q1 q2 q3 hjn HI
        have hEN : E ≤ N := by omega
        have hmd : mid - a < b - a := by omega
        have hmd2 : b - mid < b - a := by omega
        have HDD := HD
        go_upto_region 39 with fail
        obtain ⟨ba, Hba⟩ : ∃ q, Hid ((decide (i < m) && decide (m < E)) = q) := ⟨_, rfl⟩
        go_cut [185] (fun s wx => s = .bool ba ∧ wr = wx)
        case first =>
          have hq := Hba.out
          clear Hba
          by_cases c1 : i < m
          · as_aux_lemma =>
              have t1 : decide (i < m) = true := decide_eq_true c1
              by_cases c2 : m < E
              · as_aux_lemma =>
                  have t2 : decide (m < E) = true := decide_eq_true c2
                  rw [t1, t2] at hq
                  subst hq
                  go_wp2_with fail
                  go_meet
                  exact ⟨rfl, rfl⟩
              · as_aux_lemma =>
                  have t2 : decide (m < E) = false := decide_eq_false c2
                  rw [t1, t2] at hq
                  subst hq
                  go_wp2_with fail
                  go_meet
                  exact ⟨rfl, rfl⟩
          · as_aux_lemma =>
              have t1 : decide (i < m) = false := decide_eq_false c1
              rw [t1, Bool.false_and] at hq
              subst hq
              go_wp2_with fail
              go_meet
              exact ⟨rfl, rfl⟩
        case rest =>
        obtain ⟨rfl, rfl⟩ := hcut
        go_upto_if 185 with fail
        go_cut [] (fun wx => Blk wx ob 3 (natV (rowF N fun x => f (ro i m E x))) ∧ Mod (fun x => x = ob) w wx)
        case first =>
          cases ba with
          | true =>
            as_aux_lemma =>
              obtain ⟨c1, c2⟩ : i < m ∧ m < E := by have := Hba.out; simpa using this
              have HR := Lib.hid (rotR_ok wr ob N cap f HB.out i m E c1 c2 hEN hN (.func (.func fk) #[] cb))
              go_wp2_with fail
              refine HR.out.mono ?_
              rintro e w2 ⟨rfl, hb2, hm2⟩
              have HB2 := Lib.hid hb2
              have HM2 := Lib.hid (HM.out.trans hm2 fun _ _ h => h)
              clear hb2 hm2
              go_wp2_with fail
              go_meet
              exact ⟨HB2.out, HM2.out⟩
          | false =>
            as_aux_lemma =>
              have c1 : i = m ∨ m = E := by have := Hba.out; simp at this; omega
              have HB2 : Hid (Blk wr ob 3 (natV (rowF N fun x => f (ro i m E x)))) := by
                rw [show (rowF N fun x => f (ro i m E x)) = rowF N f from rowF_congr fun x _ => by rw [ro_none c1 b2 b3]]
                exact HB.out
              go_wp2_with fail
              go_meet
              exact ⟨HB2.out, HM.out⟩
        case rest =>
        obtain ⟨hb2, hm2⟩ := hcut
        have HB2 := Lib.hid hb2
        have HM2 := Lib.hid hm2
        clear hb2 hm2 HB HM Hba
        have HPG : Hid (∀ x, x < N → P (f (ro i m E x))) := fun x hx => HP.out _ (by
          by_cases e : i ≤ x ∧ x < E
          · have := (ro_sg b2 b3).inn x e.1 e.2; omega
          · rw [(ro_sg b2 b3).out x e]; exact hx)
        obtain ⟨F, HF⟩ : ∃ F : Nat → Nat, Hid ((fun x => f (ro i m E x)) = F) := ⟨_, rfl⟩
        have HFX : Hid (∀ x, f (ro i m E x) = F x) := fun x => by rw [← HF.out]
        rw [HF.out] at HB2 HP1 HQ1
        have HJ2 : Hid (∀ i' j, a ≤ i' → i' < mid → mid ≤ j → j < b → kl key (F i') (F j)) := fun i' j k1 k2 k3 k4 => by rw [← HFX.out, ← HFX.out]; exact HJN.out i' j k1 k2 k3 k4
        have HPF : Hid (∀ x, x < N → P (F x)) := fun x hx => by rw [← HFX.out]; exact HPG.out x hx
        clear HJN HPG HF
        generalize wc = w1 at *
        go_upto_region 41 with fail
        obtain ⟨bc, Hbc⟩ : ∃ q, Hid ((decide (a < i) && decide (i < mid)) = q) := ⟨_, rfl⟩
        go_cut [199] (fun s wx => s = .bool bc ∧ w1 = wx)
        case first =>
          have hq := Hbc.out
          clear Hbc
          by_cases c1 : a < i
          · as_aux_lemma =>
              have t1 : decide (a < i) = true := decide_eq_true c1
              by_cases c2 : i < mid
              · as_aux_lemma =>
                  have t2 : decide (i < mid) = true := decide_eq_true c2
                  rw [t1, t2] at hq
                  subst hq
                  go_wp2_with fail
                  go_meet
                  exact ⟨rfl, rfl⟩
              · as_aux_lemma =>
                  have t2 : decide (i < mid) = false := decide_eq_false c2
                  rw [t1, t2] at hq
                  subst hq
                  go_wp2_with fail
                  go_meet
                  exact ⟨rfl, rfl⟩
          · as_aux_lemma =>
              have t1 : decide (a < i) = false := decide_eq_false c1
              rw [t1, Bool.false_and] at hq
              subst hq
              go_wp2_with fail
              go_meet
              exact ⟨rfl, rfl⟩
        case rest =>
        obtain ⟨rfl, rfl⟩ := hcut
        go_upto_if 199 with fail
        go_cut [] (fun wx => ∃ g, Blk wx ob 3 (natV (rowF N g)) ∧ Mod (fun x => x = ob) w wx ∧ Hid (Mrg key a mid F g))
        case first =>
          cases bc with
          | true =>
            as_aux_lemma =>
              obtain ⟨c1, c2⟩ : a < i ∧ i < mid := by have := Hbc.out; simpa using this
              have HR := Lib.hid (HIH.out (mid - a) (by have := HD.out; omega) a i mid (Nat.le_refl _) c1 c2 (by omega) F w1 HB2.out (HC.out.on HM2.out) HPF.out HP1.out.1 HP1.out.2.1 HP1.out.2.2)
              go_wp2_with fail
              refine HR.out.mono ?_
              rintro e w2 ⟨g, ⟨rfl, hb3, hm3⟩, hg⟩
              have HB3 := Lib.hid hb3
              have HM3 := Lib.hid (HM2.out.trans hm3 fun _ _ h => h)
              have HG := Lib.hid hg
              clear hb3 hm3 hg
              go_wp2_with fail
              go_meet
              exact ⟨g, HB3.out, HM3.out, HG⟩
          | false =>
            as_aux_lemma =>
              have c1 : a = i ∨ i = mid := by have := Hbc.out; simp at this; omega
              have HG : Hid (Mrg key a mid F F) := Mrg.refl (by
                rcases c1 with c1 | c1
                · rw [c1]; exact HP1.out.2.1
                · rw [← c1]; exact HP1.out.1)
              go_wp2_with fail
              go_meet
              exact ⟨F, HB2.out, HM2.out, HG⟩
        case rest =>
        obtain ⟨g, hb3, hm3, HG⟩ := hcut
        clear HB2 HM2 Hbc HP1
        have HB3 := Lib.hid hb3
        have HM3 := Lib.hid hm3
        clear hb3 hm3
        generalize wc = w2 at *
        -- the second half holds what F holds there
        have HGE : Hid (∀ x, mid ≤ x → g x = F x) := fun x hx => HG.out.ge (by omega)
        have HPG2 : Hid (∀ x, x < N → P (g x)) := HG.out.P (by omega) HPF.out
        have HQ2 : Hid (Srt key g mid E ∧ Srt key g E b ∧ Crs g mid E b) := by
          refine ⟨HQ1.out.1.congr fun x k1 _ => HGE.out x k1, HQ1.out.2.1.congr fun x k1 _ => HGE.out x (by omega), fun p q k1 k2 k3 k4 => ?_⟩
          rw [HGE.out p k1, HGE.out q (by omega)]
          exact HQ1.out.2.2 p q k1 k2 k3 k4
        have HEND : Hid (∀ g2, Mrg key mid b g g2 → Mrg key a b f g2) := fun g2 hg2 =>
          pre_ok ((ro_sg b2 b3).mono (by omega) b4) ((join_ok (by omega) (by omega) HJ2.out HG.out hg2).congr fun x => (HFX.out x).symm)
        clear HQ1 HJ2 HG HGE HPF HFX
        go_upto_region 43 with fail
        obtain ⟨bd, Hbd⟩ : ∃ q, Hid ((decide (mid < E) && decide (E < b)) = q) := ⟨_, rfl⟩
        go_cut [213] (fun s wx => s = .bool bd ∧ w2 = wx)
        case first =>
          have hq := Hbd.out
          clear Hbd
          by_cases c1 : mid < E
          · as_aux_lemma =>
              have t1 : decide (mid < E) = true := decide_eq_true c1
              by_cases c2 : E < b
              · as_aux_lemma =>
                  have t2 : decide (E < b) = true := decide_eq_true c2
                  rw [t1, t2] at hq
                  subst hq
                  go_wp2_with fail
                  go_meet
                  exact ⟨rfl, rfl⟩
              · as_aux_lemma =>
                  have t2 : decide (E < b) = false := decide_eq_false c2
                  rw [t1, t2] at hq
                  subst hq
                  go_wp2_with fail
                  go_meet
                  exact ⟨rfl, rfl⟩
          · as_aux_lemma =>
              have t1 : decide (mid < E) = false := decide_eq_false c1
              rw [t1, Bool.false_and] at hq
              subst hq
              go_wp2_with fail
              go_meet
              exact ⟨rfl, rfl⟩
        case rest =>
        obtain ⟨rfl, rfl⟩ := hcut
        cases bd with
        | true =>
          as_aux_lemma =>
            obtain ⟨c1, c2⟩ : mid < E ∧ E < b := by have := Hbd.out; simpa using this
            have HR := Lib.hid (HIH.out (b - mid) (by have := HD.out; omega) mid E b (Nat.le_refl _) c1 c2 h3 g w2 HB3.out (HC.out.on HM3.out) HPG2.out HQ2.out.1 HQ2.out.2.1 HQ2.out.2.2)
            go_wp2_with fail
            refine HR.out.mono ?_
            rintro e w4 ⟨g2, ⟨rfl, hb4, hm4⟩, hg4⟩
            have HF : Hid (StPost key w ob N f a b (.returned (.tuple #[])) w4) := ⟨⟨g2, ⟨rfl, hb4, HM3.out.trans hm4 fun _ _ h => h⟩, HEND.out g2 hg4⟩⟩
            clear hb4 hm4 hg4
            go_wp2_with fail
            exact ⟨rfl, _, results_none rfl _ _ _, HF.out⟩
        | false =>
          as_aux_lemma =>
            have c1 : mid = E ∨ E = b := by have := Hbd.out; simp at this; omega
            have HF : Hid (StPost key w ob N f a b (.returned (.tuple #[])) w2) := ⟨⟨g, ⟨rfl, HB3.out, HM3.out⟩, HEND.out g (Mrg.refl (by
              rcases c1 with c1 | c1
              · rw [c1]; exact HQ2.out.2.1
              · rw [← c1]; exact HQ2.out.1))⟩⟩
            go_wp2_with fail
            exact ⟨rfl, _, results_none rfl _ _ _, HF.out⟩

end Go.Proofs.YthacjealoomioaaGreatDoor

/- The library's stable sort: stableCmpFunc, SortStableFunc. -/
namespace Go.Proofs.YthacjealoomioaaGreatDoor
set_option linter.unusedVariables false
set_option linter.unusedSimpArgs false
open Go.RowKit Go.Shelf

/-- All sorted. -/
structure SsPost (key : Nat → Int) (w : World) (ob N : Nat) (e : Ending) (W : World) : Prop where
  out : ∃ g, SfPost w ob N g e W ∧ Sg 0 N g ∧ Srt key g 0 N

set_option maxHeartbeats 16000000 in
set_option maxRecDepth 100000 in
theorem stableR_ok (w : World) (ob N cap : Nat) (hN : N ≤ 100000) (fk : Nat) (cb : Array Value) (eg : ∀ args w, (callFunc fk args).run Tryz.prog w = .ok (.enter fk args) w) (key : Nat → Int) (hb : Blk w ob 3 (natV (rowF N fun x => x))) (hcmp : CmpOn w ob fk cb (fun x => x < N) key) :
    Calls Tryz.prog 110 #[.slice (some ⟨ob, 0, none⟩) N cap, .int .i64 (N : Int), .func (.func fk) #[] cb] w (SsPost key w ob N) := by
  have HB := Lib.hid hb
  have HC := Lib.hid hcmp
  clear hb hcmp
  go_enter Tryz.func110, Tryz.ntmps110
  go_wp2_with fail
  go_loopw [7, 8] (fun s t wr => ∃ (a c : Nat) (f : Nat → Nat), Hid (a + 20 = c) ∧ s = .int .i64 (a : Int) ∧ t = .int .i64 (c : Int) ∧ a ≤ N ∧ Blk wr ob 3 (natV (rowF N f)) ∧ Mod (fun x => x = ob) w wr ∧ Hid (Pre key 20 f a ∧ (∀ x, a ≤ x → f x = x) ∧ Sg 0 N f)) (fun s _ _ => N - (intOf s).toNat)
  case atStart => exact ⟨0, 20, fun x => x, rfl, rfl, rfl, Nat.zero_le _, HB.out, Mod.refl _ _, .start, fun _ _ => rfl, Sg.id 0 N⟩
  case round =>
    obtain ⟨a, c, f, HCC, rfl, rfl, ha, hb, hm, HI⟩ := hrel
    clear HB
    have HBR := Lib.hid hb
    have HM := Lib.hid hm
    clear hb hm
    have hP : ∀ x, x < N → f x < N := fun x hx => (HI.out.2.2.inn x (Nat.zero_le _) hx).2
    by_cases hab : c ≤ N
    · go_wp2_with fail
      with_reducible refine (insR_ok wr ob N cap f HBR.out a c (by have := HCC.out; omega) hab (by omega) fk cb eg (fun x => x < N) key (HC.out.on HM.out) hP (fun p q p1 p2 p3 => by rw [HI.out.2.1 p p1, HI.out.2.1 q (by omega)]; exact p2)).mono ?_
      rintro e w2 ⟨g, ⟨rfl, hb2, hm2⟩, hg⟩
      have HG : Hid (Pre key 20 g c ∧ (∀ x, c ≤ x → g x = x) ∧ Sg 0 N g) := by
        have hC := HCC.out
        subst hC
        obtain ⟨p1, p2⟩ := HI.out.1.first HI.out.2.1 hg
        exact ⟨p1, p2, hg.sg hab HI.out.2.2⟩
      have HB2 := Lib.hid hb2
      have HM2 := Lib.hid (HM.out.trans hm2 fun _ _ e => e)
      have v1 : IntKind.i64.wrap ((c : Int) + 20) = ((c + 20 : Nat) : Int) := by rw [IntWalk.i64_in _ (by omega)]; omega
      clear hb2 hm2 hg HBR HM HI hP
      go_wp2_with fail
      go_roundw
      case rel => exact ⟨c, c + 20, g, rfl, by first | rfl | go_num, by first | rfl | go_num, hab, HB2.out, HM2.out, HG.out⟩
      case measure => have := HCC.out; simp [intOf]; omega
    · go_wp2_with fail
      with_reducible refine (insR_ok wr ob N cap f HBR.out a N ha (Nat.le_refl _) (by omega) fk cb eg (fun x => x < N) key (HC.out.on HM.out) hP (fun p q p1 p2 p3 => by rw [HI.out.2.1 p p1, HI.out.2.1 q (by omega)]; exact p2)).mono ?_
      rintro e w2 ⟨g, ⟨rfl, hb2, hm2⟩, hg⟩
      have HG : Hid (Bks key N 20 g 0 ∧ Sg 0 N g) := ⟨HI.out.1.firstLast (by have := HCC.out; omega) ha (by have := HCC.out; omega) HI.out.2.1 hg, hg.sg (Nat.le_refl _) HI.out.2.2⟩
      have HB2 := Lib.hid hb2
      have HM2 := Lib.hid (HM.out.trans hm2 fun _ _ e => e)
      clear hb2 hm2 hg HBR HM HI hP
      go_wp2_with fail
      go_loopw [6, 7, 8, 9] (fun s t u v wr => ∃ (B : Nat) (f : Nat → Nat), s = .int .i64 (B : Int) ∧ 20 ≤ B ∧ B ≤ 1000000 ∧ Blk wr ob 3 (natV (rowF N f)) ∧ Mod (fun x => x = ob) w wr ∧ Hid (Bks key N B f 0 ∧ Sg 0 N f)) (fun s _ _ _ _ => N - (intOf s).toNat)
      case atStart => exact ⟨20, g, rfl, Nat.le_refl _, by omega, HB2.out, HM2.out, HG.out⟩
      case round =>
        obtain ⟨B, f, rfl, hB, hB2, hb, hm, HI⟩ := hrel
        clear HB2 HM2 HG
        have HBR := Lib.hid hb
        have HM := Lib.hid hm
        clear hb hm
        by_cases hBN : B < N
        · obtain ⟨D, HD⟩ : ∃ D, Hid (B + B = D) := ⟨_, rfl⟩
          have v0 : IntKind.i64.wrap (2 * (B : Int)) = (D : Int) := by have := HD.out; rw [IntWalk.i64_in _ (by omega)]; omega
          have v9 : IntKind.i64.wrap ((B : Int) * 2) = (D : Int) := by have := HD.out; rw [IntWalk.i64_in _ (by omega)]; omega
          go_wp2_with fail
          go_loopw [7, 8] (fun s t wr => ∃ (a c : Nat) (h : Nat → Nat), Hid (a + D = c) ∧ s = .int .i64 (a : Int) ∧ t = .int .i64 (c : Int) ∧ a ≤ N ∧ Blk wr ob 3 (natV (rowF N h)) ∧ Mod (fun x => x = ob) w wr ∧ Hid (Pre key D h a ∧ Bks key N B h a ∧ Sg 0 N h)) (fun s _ _ => N - (intOf s).toNat)
          case atStart => exact ⟨0, D, f, Nat.zero_add D, rfl, by first | rfl | go_num, Nat.zero_le _, HBR.out, HM.out, .start, HI.out.1, HI.out.2⟩
          case round =>
            obtain ⟨a, c, h, HCC, rfl, rfl, ha, hb, hm, HJ⟩ := hrel
            obtain ⟨md, HMD⟩ : ∃ md, Hid (a + B = md) := ⟨_, rfl⟩
            clear HBR HM HI
            have HBZ := Lib.hid hb
            have HMZ := Lib.hid hm
            clear hb hm
            have hP : ∀ x, x < N → h x < N := fun x hx => (HJ.out.2.2.inn x (Nat.zero_le _) hx).2
            have v1 : IntKind.i64.wrap ((a : Int) + (B : Int)) = (md : Int) := by have := HMD.out; rw [IntWalk.i64_in _ (by omega)]; omega
            by_cases hab : c ≤ N
            · have hC := HCC.out
              have hM := HMD.out
              have hD : D = B + B := HD.out.symm
              obtain ⟨q1, q2, _⟩ := HJ.out.2.1.two (by omega) (show a + B < N by omega)
              have hq2 : Qb key h md c := by
                have := q2
                rw [Nat.min_eq_left (by omega), Nat.add_assoc, ← hD, hC, hM] at this
                exact this
              rw [hM] at q1
              clear hC hM hD
              have HQ := Lib.hid (And.intro q1 hq2)
              clear q1 q2 hq2
              go_wp2_with fail
              with_reducible refine (symR_ok N cap ob (by omega) fk cb eg (fun x => x < N) key (c - a) a md c (Nat.le_refl _) (by have := HMD.out; omega) (by have := HMD.out; have := HCC.out; have := HD.out; omega) hab h wr HBZ.out (HC.out.on HMZ.out) hP HQ.out.1.srt HQ.out.2.srt (HQ.out.1.crs HQ.out.2)).mono ?_
              rintro e w3 ⟨g2, ⟨rfl, hb3, hm3⟩, hg⟩
              have HG3 : Hid (Pre key D g2 c ∧ Bks key N B g2 c ∧ Sg 0 N g2) := by
                have hJ := HJ.out
                have hC := HCC.out
                have hM := HMD.out
                have hD : D = B + B := HD.out.symm
                subst hC hM
                rw [hD] at hg hab hJ ⊢
                obtain ⟨p1, p2⟩ := hJ.1.step hJ.2.1 (by omega) hab hg
                exact ⟨p1, p2, hg.sg hab hJ.2.2⟩
              have HB3 := Lib.hid hb3
              have HM3 := Lib.hid (HMZ.out.trans hm3 fun _ _ e => e)
              have v2 : IntKind.i64.wrap ((c : Int) + (D : Int)) = ((c + D : Nat) : Int) := by have := HCC.out; have := HD.out; rw [IntWalk.i64_in _ (by omega)]; omega
              clear hb3 hm3 hg HBZ HMZ HJ hP HQ
              go_wp2_with fail
              go_roundw
              case rel => exact ⟨c, c + D, g2, rfl, by first | rfl | go_num, by first | rfl | go_num, hab, HB3.out, HM3.out, HG3.out⟩
              case measure => have := HCC.out; have := HD.out; simp [intOf]; omega
            · by_cases hmN : md < N
              · have hM := HMD.out
                have hC := HCC.out
                have hD : D = B + B := HD.out.symm
                obtain ⟨q1, q2, _⟩ := HJ.out.2.1.two (by omega) (by rw [hM]; exact hmN)
                have hq2 : Qb key h md N := by
                  have := q2
                  rw [Nat.min_eq_right (by omega), hM] at this
                  exact this
                rw [hM] at q1
                clear hM hC hD
                have HQ := Lib.hid (And.intro q1 hq2)
                clear q1 q2 hq2
                go_wp2_with fail
                with_reducible refine (symR_ok N cap ob (by omega) fk cb eg (fun x => x < N) key (N - a) a md N (Nat.le_refl _) (by have := HMD.out; omega) hmN (Nat.le_refl _) h wr HBZ.out (HC.out.on HMZ.out) hP HQ.out.1.srt HQ.out.2.srt (HQ.out.1.crs HQ.out.2)).mono ?_
                rintro e w3 ⟨g2, ⟨rfl, hb3, hm3⟩, hg⟩
                have HG3 : Hid (Bks key N D g2 0 ∧ Sg 0 N g2) := by
                  have hJ := HJ.out
                  have hC := HCC.out
                  have hM := HMD.out
                  have hD : D = B + B := HD.out.symm
                  subst hC hM
                  rw [hD] at hab hJ ⊢
                  exact ⟨hJ.1.last hJ.2.1 (by omega) hmN (by omega) hg, hg.sg (Nat.le_refl _) hJ.2.2⟩
                have HB3 := Lib.hid hb3
                have HM3 := Lib.hid (HMZ.out.trans hm3 fun _ _ e => e)
                clear hb3 hm3 hg HBZ HMZ HJ hP HQ
                go_wp2_with fail
                go_roundw
                case rel => exact ⟨D, g2, by first | rfl | go_num, by have := HD.out; omega, by have := HD.out; omega, HB3.out, HM3.out, HG3.out⟩
                case measure => have := HD.out; simp [intOf]; omega
              · have HG3 : Hid (Bks key N D h 0 ∧ Sg 0 N h) := by
                  have hJ := HJ.out
                  have hC := HCC.out
                  have hM := HMD.out
                  have hD : D = B + B := HD.out.symm
                  subst hC hM
                  rw [hD] at hab hJ ⊢
                  exact ⟨hJ.1.none hJ.2.1 (by omega) ha (by omega), hJ.2.2⟩
                clear HJ hP
                go_wp2_with fail
                go_roundw
                case rel => exact ⟨D, h, by first | rfl | go_num, by have := HD.out; omega, by have := HD.out; omega, HBZ.out, HMZ.out, HG3.out⟩
                case measure => have := HD.out; simp [intOf]; omega
        · have HS : Hid (Sg 0 N f ∧ Srt key f 0 N) := ⟨HI.out.2, HI.out.1.srt (by omega)⟩
          clear HI
          go_wp2_with fail
          exact ⟨rfl, _, results_none rfl _ _ _, ⟨f, ⟨rfl, HBR.out, HM.out⟩, HS.out⟩⟩

set_option maxHeartbeats 2000000 in
set_option maxRecDepth 100000 in
theorem stableS_ok (w : World) (ob N cap : Nat) (hN : N ≤ 100000) (fk : Nat) (cb : Array Value) (eg : ∀ args w, (callFunc fk args).run Tryz.prog w = .ok (.enter fk args) w) (key : Nat → Int) (hb : Blk w ob 3 (natV (rowF N fun x => x))) (hcmp : CmpOn w ob fk cb (fun x => x < N) key) :
    Calls Tryz.prog 77 #[.slice (some ⟨ob, 0, none⟩) N cap, .func (.func fk) #[] cb] w (SsPost key w ob N) := by
  have HB := Lib.hid hb
  have HC := Lib.hid hcmp
  clear hb hcmp
  go_enter Tryz.func77, Tryz.ntmps77
  go_wp2_with fail
  with_reducible refine (stableR_ok w ob N cap hN fk cb eg key HB.out HC.out).mono ?_
  rintro e w2 ⟨g, ⟨rfl, hb2, hm2⟩, hg⟩
  have HG := Lib.hid hg
  have HB2 := Lib.hid hb2
  have HM2 := Lib.hid hm2
  clear hb2 hm2 hg
  go_wp2_with fail
  exact ⟨rfl, _, results_none rfl _ _ _, ⟨g, ⟨rfl, HB2.out, HM2.out⟩, HG.out⟩⟩

end Go.Proofs.YthacjealoomioaaGreatDoor
