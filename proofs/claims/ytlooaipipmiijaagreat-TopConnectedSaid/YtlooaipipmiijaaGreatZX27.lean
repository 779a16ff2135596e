/- Several texts in one: LcQ, LcR. -/
import Derived.Test.YtlooaipipmiijaaGreatZX26
namespace Go.Proofs.YtlooaipipmiijaaGreat
set_option linter.unusedVariables false
set_option linter.unusedSimpArgs false
open Go.RowKit
theorem LObj.modF (w w' : World) {p g n : Nat} {N : NS} {ed : Int} (h : LObj w p g n N ed) (hd : w' = w.drew) : LObj w' p g n N ed := by subst hd; exact ⟨h.mem, h.ne, h.bd, h.nb⟩
def psK (N : NS) (i : Nat) : Nat → NS
  | 0 => updN N i { N i with fl := false, k0 := (N i).k1, k1 := (N i).k0 }
  | 1 => flipK (updN N i { N i with fl := false, k0 := (N i).k1, k1 := (N i).k0 }) (N i).k1
  | _ => flipK (flipK (updN N i { N i with fl := false, k0 := (N i).k1, k1 := (N i).k0 }) (N i).k1) (N i).k0
theorem flip_zero (N : NS) : flipK N 0 = N := if_pos rfl
set_option maxHeartbeats 8000000 in
set_option maxRecDepth 100000 in
theorem lc_push (w : World) (p g n : Nat) (N : NS) (ed : Int) (h : LObj w p g n N ed) (i : Nat) (hi : i ≤ n) :
    Calls Tryz.prog 145 #[.pointer (some ⟨p, 0, none⟩), .int .i64 (i : Int)] w (LPost w p g n (pushN N i) ed (.tuple #[])) := by
  obtain ⟨cap1, c1⟩ := h.c1
  have hn := h.nb
  have HO := Lib.hid h
  have HBD := Lib.hid h.bd
  have q3 : w.cell? ⟨g, i * 9 + 3, none⟩ = some (.bool (N i).fl) := h.at_ hi 3 (by omega)
  have f3 : w.frozen? ⟨g, i * 9 + 3, none⟩ = false := h.fr _
  have g1 : (i : Int) < (n + 1 : Nat) := by omega
  have g2 : (0 : Int) ≤ (i : Int) := by omega
  obtain ⟨fl, HF⟩ : ∃ fl, Hid ((N i).fl = fl) := ⟨_, rfl⟩
  rw [HF.out] at q3
  clear h
  go_enter Tryz.func145, Tryz.ntmps145
  cases fl with
  | false =>
    have HN : Hid (pushN N i = N) := by show _ = _; unfold pushN; rw [HF.out]; rfl
    go_wp2_with fail
    go_end0
    exact ⟨rfl, by rw [HN.out]; exact HO.out, Mod.refl _ _⟩
  | true =>
    obtain ⟨a, HA⟩ : ∃ x, Hid ((N i).k0 = x) := ⟨_, rfl⟩
    obtain ⟨b, HB⟩ : ∃ x, Hid ((N i).k1 = x) := ⟨_, rfl⟩
    have HN : Hid (pushN N i = psK N i 2) := by show _ = _; unfold pushN; rw [HF.out]; rfl
    have hab : a ≤ n ∧ b ≤ n := by obtain ⟨b0, b1, _⟩ := HBD.out i hi; rw [HA.out] at b0; rw [HB.out] at b1; exact ⟨b0, b1⟩
    have HO1 : Hid (LObj (w.setCell ⟨g, i * 9 + 3, none⟩ (.bool false)) p g n (updN N i { N i with fl := false }) ed) :=
      HO.out.set (j := 3) (v := { N i with fl := false }) hi (by omega) (HBD.out i hi) (fun r hr hne => match r, hr, hne with
      | 0, _, _ => rfl
      | 1, _, _ => rfl
      | 2, _, _ => rfl
      | 4, _, _ => rfl
      | 5, _, _ => rfl
      | 6, _, _ => rfl
      | 7, _, _ => rfl
      | 8, _, _ => rfl) rfl
    have HM1 : Hid (Mod (fun x => x = g) w (w.setCell ⟨g, i * 9 + 3, none⟩ (.bool false))) := (Mod.refl (fun x => x = g) w).setCell ⟨g, i * 9 + 3, none⟩ (fun _ => rfl) _
    clear HO
    go_upto_region 3 with fail
    clear c1 q3 f3
    generalize w.setCell ⟨g, i * 9 + 3, none⟩ (.bool false) = w1 at *
    obtain ⟨cap1, c1⟩ := HO1.out.c1
    have q0 : w1.cell? ⟨g, i * 9, none⟩ = some (.int .i64 (a : Int)) := by have := HO1.out.at_ hi 0 (by omega); rw [uN_same] at this; rw [← HA.out]; exact this
    have q1 : w1.cell? ⟨g, i * 9 + 1, none⟩ = some (.int .i64 (b : Int)) := by have := HO1.out.at_ hi 1 (by omega); rw [uN_same] at this; rw [← HB.out]; exact this
    have f0 : w1.frozen? ⟨g, i * 9, none⟩ = false := HO1.out.fr _
    have f1 : w1.frozen? ⟨g, i * 9 + 1, none⟩ = false := HO1.out.fr _
    have HO2 : Hid (LObj (((w1.setCell ⟨g, i * 9, none⟩ (.int .i64 (b : Int))).setCell ⟨g, i * 9 + 1, none⟩ (.int .i64 (a : Int))).drew) p g n (psK N i 0) ed) := by
      obtain ⟨b0, b1, b2, b3⟩ := HBD.out i hi
      have h1 := HO1.out.set (i := i) (j := 0) (v := { N i with fl := false, k0 := b }) hi (by omega) ⟨hab.2, b1, b2, b3⟩ (by rw [uN_same]; exact fun r hr hne => match r, hr, hne with
        | 1, _, _ => rfl
        | 2, _, _ => rfl
        | 3, _, _ => rfl
        | 4, _, _ => rfl
        | 5, _, _ => rfl
        | 6, _, _ => rfl
        | 7, _, _ => rfl
        | 8, _, _ => rfl) rfl
      have h2 := h1.set (i := i) (j := 1) (v := { N i with fl := false, k0 := b, k1 := a }) hi (by omega) ⟨hab.2, hab.1, b2, b3⟩ (by rw [uN_same]; exact fun r hr hne => match r, hr, hne with
        | 0, _, _ => rfl
        | 2, _, _ => rfl
        | 3, _, _ => rfl
        | 4, _, _ => rfl
        | 5, _, _ => rfl
        | 6, _, _ => rfl
        | 7, _, _ => rfl
        | 8, _, _ => rfl) rfl
      rw [updN_twice, updN_twice] at h2
      have e : psK N i 0 = updN N i { N i with fl := false, k0 := b, k1 := a } := by rw [← HA.out, ← HB.out]; rfl
      show LObj _ _ _ _ _ _
      rw [e]
      exact h2.modF _ _ rfl
    have HM2 : Hid (Mod (fun x => x = g) w (((w1.setCell ⟨g, i * 9, none⟩ (.int .i64 (b : Int))).setCell ⟨g, i * 9 + 1, none⟩ (.int .i64 (a : Int))).drew)) := ((HM1.out.setCell ⟨g, i * 9, none⟩ (fun _ => rfl) _).setCell ⟨g, i * 9 + 1, none⟩ (fun _ => rfl) _).drew
    clear HO1 HM1
    go_cut [] (fun wx => wx = ((w1.setCell ⟨g, i * 9, none⟩ (.int .i64 (b : Int))).setCell ⟨g, i * 9 + 1, none⟩ (.int .i64 (a : Int))).drew)
    case first =>
      go_region
      all_goals
        go_wp2_with fail
        go_meet
        exact rfl
    case rest =>
      obtain rfl := hcut
      clear c1 q0 q1 f0 f1
      generalize ((w1.setCell ⟨g, i * 9, none⟩ (.int .i64 (b : Int))).setCell ⟨g, i * 9 + 1, none⟩ (.int .i64 (a : Int))).drew = w2 at *
      have ei : psK N i 0 i = { N i with fl := false, k0 := (N i).k1, k1 := (N i).k0 } := uN_same _ _ _
      have q0 : w2.cell? ⟨g, i * 9, none⟩ = some (.int .i64 (b : Int)) := by have := HO2.out.at_ hi 0 (by omega); rw [ei] at this; rw [← HB.out]; exact this
      have q1 : w2.cell? ⟨g, i * 9 + 1, none⟩ = some (.int .i64 (a : Int)) := by have := HO2.out.at_ hi 1 (by omega); rw [ei] at this; rw [← HA.out]; exact this
      clear ei
      go_wp2_with fail
      clear q0 q1
      go_loopw [43] (fun s wr => ∃ k : Nat, k ≤ 2 ∧ s = .int .i64 (k : Int) ∧ LObj wr p g n (psK N i k) ed ∧ Mod (fun x => x = g) w wr) (fun s _ => 2 - (intOf s).toNat)
      case atStart => exact ⟨0, by omega, rfl, HO2.out, HM2.out⟩
      case round =>
        obtain ⟨k, hk, rfl, hor, hmr⟩ := hrel
        clear HO2 HM2
        have HOR := Lib.hid hor
        have HMR := Lib.hid hmr
        clear hor hmr
        by_cases hk2 : k < 2
        · obtain ⟨K, HIX, hKn, HST⟩ : ∃ K : Nat, Hid (∀ w, (Instr.index 169 (.agg #[Value.int IntKind.i64 (b : Int), Value.int IntKind.i64 (a : Int)]) (.int .i64 (k : Int))).run Tryz.prog w = .ok (.int .i64 (K : Int)) w) ∧ K ≤ n ∧ Hid (psK N i (k + 1) = flipK (psK N i k) K) := by
            have hk3 : k = 0 ∨ k = 1 := by omega
            rcases hk3 with rfl | rfl
            · exact ⟨b, fun w => Tryz.idx0 _ _ w, hab.2, by rw [← HB.out]; rfl⟩
            · exact ⟨a, fun w => Tryz.idx1 _ _ w, hab.1, by rw [← HA.out]; rfl⟩
          have hix := HIX.out
          have t1 : decide ((k : Int) < 2) = true := decide_eq_true (by omega)
          have t1' : decide (k < 2) = true := decide_eq_true (by omega)
          by_cases hK : K = 0
          · subst hK
            have HO2 : Hid (LObj wr p g n (psK N i (k + 1)) ed) := by show LObj _ _ _ _ _ _; rw [HST.out, flip_zero]; exact HOR.out
            clear HOR HST HIX
            go_wp2_with fail
            go_roundw
            case rel => exact ⟨k + 1, by omega, by go_num, HO2.out, HMR.out⟩
            case measure => simp [intOf]; omega
          · have t2 : ((K : Int) == 0) = false := by simpa using hK
            have t2' : (K == 0) = false := by simpa using hK
            have t2'' : decide (K = 0) = false := decide_eq_false hK
            obtain ⟨M, HMM⟩ : ∃ M, Hid (psK N i k = M) := ⟨_, rfl⟩
            rw [HMM.out] at HOR HST
            obtain ⟨y, HY⟩ : ∃ y, Hid ((M K).fl = y) := ⟨_, rfl⟩
            obtain ⟨cap1, c1⟩ := HOR.out.c1
            have q3 : wr.cell? ⟨g, K * 9 + 3, none⟩ = some (.bool y) := by rw [← HY.out]; exact HOR.out.at_ hKn 3 (by omega)
            have f3 : wr.frozen? ⟨g, K * 9 + 3, none⟩ = false := HOR.out.fr _
            have HO3 : Hid (∀ W, Mod (fun _ => False) wr W → LObj (W.setCell ⟨g, K * 9 + 3, none⟩ (.bool (!y))) p g n (psK N i (k + 1)) ed) := fun W hW => by
              have h1 := (HOR.out.mod hW (fun e => e) (fun e => e)).set (i := K) (j := 3) (v := { M K with fl := !y }) hKn (by omega) (HOR.out.bd K hKn) (fun r hr hne => match r, hr, hne with
                | 0, _, _ => rfl
                | 1, _, _ => rfl
                | 2, _, _ => rfl
                | 4, _, _ => rfl
                | 5, _, _ => rfl
                | 6, _, _ => rfl
                | 7, _, _ => rfl
                | 8, _, _ => rfl) rfl
              have e : psK N i (k + 1) = updN M K { M K with fl := !y } := by
                rw [HST.out]; unfold flipK; rw [if_neg (by simpa using t2'), HY.out]
              rw [e]; exact h1
            have g3 : (K : Int) < (n + 1 : Nat) := by omega
            have g4 : (0 : Int) ≤ (K : Int) := by omega
            have g5 : (K : Int) < (n : Int) + 1 := by omega
            have g6 : K < n + 1 := by omega
            clear hK
            go_upto_region 8 with fail
            refine region_tailD 16 (by kernel_rfl) (by kernel_rfl) ?_
            intro W5 hW5
            replace q3 := hW5.cell q3
            replace f3 := hW5.frozen f3
            replace c1 := hW5.cell c1
            have HMW5 := Lib.hid (hW5.mod (Mod.refl (fun _ => False) wr))
            clear hW5
            simp only [List.take_succ_cons, List.take_zero, List.drop_succ_cons, List.drop_zero]
            repeat still_step
            refine wpStill_nil ?_
            have HO6 := Lib.hid (HO3.out W5 HMW5.out)
            have HM6 : Hid (Mod (fun x => x = g) w (W5.setCell ⟨g, K * 9 + 3, none⟩ (.bool (!y)))) := (HMR.out.trans HMW5.out (fun _ _ e => e.elim)).setCell ⟨g, K * 9 + 3, none⟩ (fun _ => rfl) _
            go_upto_region 9 with fail
            clear q3 f3 c1 HO3 HMW5 HOR HMR
            generalize W5.setCell ⟨g, K * 9 + 3, none⟩ (.bool (!y)) = w6 at *
            go_wp2_with fail
            go_roundw
            case rel => exact ⟨k + 1, by omega, by go_num, HO6.out, HM6.out⟩
            case measure => simp [intOf]; omega
        · obtain rfl : k = 2 := by omega
          have HO2 : Hid (LObj wr p g n (pushN N i) ed) := by show LObj _ _ _ _ _ _; rw [HN.out]; exact HOR.out
          clear HOR
          go_wp2_with fail
          go_end0
          exact ⟨rfl, HO2.out, HMR.out⟩
end Go.Proofs.YtlooaipipmiijaaGreat

namespace Go.Proofs.YtlooaipipmiijaaGreat
set_option linter.unusedVariables false
set_option linter.unusedSimpArgs false
open Go.RowKit
set_option maxHeartbeats 8000000 in
set_option maxRecDepth 100000 in
theorem lc_rotF (w : World) (p g n : Nat) (N : NS) (ed : Int) (h : LObj w p g n N ed) (i : Nat) (hi : i ≤ n) (hr : RotP N i) (hs : (sideN N i).getD false = false) :
    Calls Tryz.prog 146 #[.pointer (some ⟨p, 0, none⟩), .int .i64 (i : Int)] w (LPost w p g n (rotN N i) ed (.tuple #[])) := by
  have hn := h.nb
  have HS := Lib.hid hs
  have HR := Lib.hid hr
  obtain ⟨pp, HPP⟩ : ∃ x, Hid ((N i).up = x) := ⟨_, rfl⟩
  have hpp : pp ≤ n := by rw [← HPP.out]; exact (h.bd i hi).2.2.1
  obtain ⟨gg, HGG⟩ : ∃ x, Hid ((N pp).up = x) := ⟨_, rfl⟩
  have hgg : gg ≤ n := by rw [← HGG.out]; exact (h.bd pp hpp).2.2.1
  obtain ⟨cap1, c1⟩ := h.c1
  have q1 : w.cell? ⟨g, i * 9 + 2, none⟩ = some (.int .i64 (pp : Int)) := by rw [← HPP.out]; exact h.at_ hi 2 (by omega)
  have q2 : w.cell? ⟨g, pp * 9 + 2, none⟩ = some (.int .i64 (gg : Int)) := by rw [← HGG.out]; exact h.at_ hpp 2 (by omega)
  have g1 : (i : Int) < (n + 1 : Nat) := by omega
  have g2 : (0 : Int) ≤ (i : Int) := by omega
  have g3 : (pp : Int) < (n + 1 : Nat) := by omega
  have g4 : (0 : Int) ≤ (pp : Int) := by omega
  have HO := Lib.hid h
  have HSR : Hid (∃ b, sideR (sideN N i) = .tuple #[.int .i64 0, .bool b]) := by
    cases hq : sideN N i with
    | none => rw [hq] at hs; exact ⟨false, rfl⟩
    | some s => rw [hq] at hs; have : s = false := hs; subst this; exact ⟨true, rfl⟩
  clear h hr hs
  go_enter Tryz.func146, Tryz.ntmps146
  go_wp2_with fail
  obtain ⟨ob, hob⟩ := HSR.out
  have hcon := lc_side w p g n N ed HO.out i hi
  rw [hob] at hcon
  with_reducible refine hcon.mono ?_
  rintro e w1 ⟨rfl, hb1⟩
  have HO1 := Lib.hid (HO.out.below hb1)
  have HM1 : Hid (Mod (fun x => x = g) w w1) := Mod.of_below (F := fun x => x = g) hb1
  clear hb1 hcon hob c1 q1 q2 HO HSR
  go_wp2_with fail
  have hcon := lc_side w1 p g n N ed HO1.out pp hpp
  cases ha : sideN N pp with
  | some a =>
    have HA := Lib.hid ha
    obtain ⟨ai, HAI⟩ : ∃ ai : Int, Hid ((if a = true then 1 else 0) = ai) := ⟨_, rfl⟩
    rw [ha, show sideR (some a) = .tuple #[.int .i64 (if a = true then 1 else 0), .bool true] from rfl, HAI.out] at hcon
    clear ha
    with_reducible refine hcon.mono ?_
    rintro e w2 ⟨rfl, hb2⟩
    have HO2 := Lib.hid (HO1.out.below hb2)
    have HM2 : Hid (Mod (fun x => x = g) w w2) := HM1.out.trans (Mod.of_below (F := fun x => x = g) hb2) (fun _ _ e => e)
    clear hb2 hcon HO1 HM1
    go_wp2_with fail
    with_reducible refine (lc_hang w2 p g n N ed HO2.out gg i a ai HAI.out.symm hgg hi).mono ?_
    rintro e w3 ⟨rfl, ho3, hm3⟩
    have HO3 : Hid (LObj w3 p g n (rot1 N i) ed) := by
      show LObj _ _ _ _ _ _
      unfold rot1
      rw [HPP.out, HA.out, HGG.out]
      exact ho3
    have HM3 : Hid (Mod (fun x => x = g) w w3) := HM2.out.trans hm3 (fun _ _ e => e)
    clear ho3 hm3 HO2 HM2
    obtain ⟨cap1, c1⟩ := HO3.out.c1
    obtain ⟨c, HC⟩ : ∃ c, Hid (kid (rot1 N i) true i = c) := ⟨_, rfl⟩
    have hc : c ≤ n := by rw [← HC.out]; exact BdN.kid HO3.out.bd true hi
    have qc : w3.cell? ⟨g, i * 9 + 1, none⟩ = some (.int .i64 (c : Int)) := by rw [← HC.out]; exact HO3.out.at_ hi 1 (by omega)
    go_wp2_with fail
    with_reducible refine (lc_hang w3 p g n (rot1 N i) ed HO3.out pp c false 0 rfl hpp hc).mono ?_
    rintro e w4 ⟨rfl, ho4, hm4⟩
    have HO4 := Lib.hid ho4
    have HM4 : Hid (Mod (fun x => x = g) w w4) := HM3.out.trans hm4 (fun _ _ e => e)
    clear c1 qc ho4 hm4 HO3 HM3
    go_wp2_with fail
    with_reducible refine (lc_hang w4 p g n _ ed HO4.out i pp true 1 rfl hi hpp).mono ?_
    rintro e w5 ⟨rfl, ho5, hm5⟩
    have HO5 : Hid (LObj w5 p g n (rot3 N i) ed) := by
      show LObj _ _ _ _ _ _
      unfold rot3
      rw [HS.out, HPP.out]
      rw [← HC.out] at ho5
      exact ho5
    have HM5 : Hid (Mod (fun x => x = g) w w5) := HM4.out.trans hm5 (fun _ _ e => e)
    clear ho5 hm5 HO4 HM4
    go_wp2_with fail
    with_reducible refine (lc_refresh w5 p g n (rot3 N i) ed HO5.out pp hpp (by have := HR.out.a0; rw [HPP.out] at this; exact this) (by have := HR.out.a1; rw [HPP.out] at this; exact this)).mono ?_
    rintro e w6 ⟨rfl, ho6, hm6⟩
    have HO6 := Lib.hid ho6
    have HM6 : Hid (Mod (fun x => x = g) w w6) := HM5.out.trans hm6 (fun _ _ e => e)
    clear ho6 hm6 HO5 HM5
    go_wp2_with fail
    with_reducible refine (lc_refresh w6 p g n (refN (rot3 N i) pp) ed HO6.out i hi (by have := HR.out.b0; rw [HPP.out] at this; exact this) (by have := HR.out.b1; rw [HPP.out] at this; exact this)).mono ?_
    rintro e w7 ⟨rfl, ho7, hm7⟩
    have HO7 : Hid (LObj w7 p g n (rotN N i) ed) := by
      show LObj _ _ _ _ _ _
      unfold rotN
      rw [HPP.out]
      exact ho7
    have HM7 : Hid (Mod (fun x => x = g) w w7) := HM6.out.trans hm7 (fun _ _ e => e)
    clear ho7 hm7 HO6 HM6
    go_wp2_with fail
    go_end0
    exact ⟨rfl, HO7.out, HM7.out⟩
  | none =>
    have HA := Lib.hid ha
    rw [ha, show sideR none = .tuple #[.int .i64 0, .bool false] from rfl] at hcon
    clear ha
    with_reducible refine hcon.mono ?_
    rintro e w2 ⟨rfl, hb2⟩
    have HO2 := Lib.hid (HO1.out.below hb2)
    have HM2 : Hid (Mod (fun x => x = g) w w2) := HM1.out.trans (Mod.of_below (F := fun x => x = g) hb2) (fun _ _ e => e)
    clear hb2 hcon HO1 HM1
    obtain ⟨cap1, c1⟩ := HO2.out.c1
    obtain ⟨u2, q2⟩ : ∃ u2 : Nat, w2.cell? ⟨g, i * 9 + 2, none⟩ = some (.int .i64 (u2 : Int)) := ⟨_, HO2.out.at_ hi 2 (by omega)⟩
    have f2 : w2.frozen? ⟨g, i * 9 + 2, none⟩ = false := HO2.out.fr _
    have HO3 : Hid (LObj (w2.setCell ⟨g, i * 9 + 2, none⟩ (.int .i64 (gg : Int))) p g n (rot1 N i) ed) := by
      show LObj _ _ _ _ _ _
      unfold rot1
      rw [HPP.out, HA.out, HGG.out]
      obtain ⟨b0, b1, b2, b3⟩ := HO2.out.bd i hi
      exact HO2.out.set (j := 2) (v := { N i with up := gg }) hi (by omega) ⟨b0, b1, hgg, b3⟩ (fun r hr hne => match r, hr, hne with
      | 0, _, _ => rfl
      | 1, _, _ => rfl
      | 3, _, _ => rfl
      | 4, _, _ => rfl
      | 5, _, _ => rfl
      | 6, _, _ => rfl
      | 7, _, _ => rfl
      | 8, _, _ => rfl) rfl
    have HM3 : Hid (Mod (fun x => x = g) w (w2.setCell ⟨g, i * 9 + 2, none⟩ (.int .i64 (gg : Int)))) := HM2.out.setCell ⟨g, i * 9 + 2, none⟩ (fun _ => rfl) _
    go_upto_region 7 with fail
    clear c1 q2 f2 HO2 HM2
    generalize w2.setCell ⟨g, i * 9 + 2, none⟩ (.int .i64 (gg : Int)) = w3 at *
    obtain ⟨cap1, c1⟩ := HO3.out.c1
    obtain ⟨c, HC⟩ : ∃ c, Hid (kid (rot1 N i) true i = c) := ⟨_, rfl⟩
    have hc : c ≤ n := by rw [← HC.out]; exact BdN.kid HO3.out.bd true hi
    have qc : w3.cell? ⟨g, i * 9 + 1, none⟩ = some (.int .i64 (c : Int)) := by rw [← HC.out]; exact HO3.out.at_ hi 1 (by omega)
    go_wp2_with fail
    with_reducible refine (lc_hang w3 p g n (rot1 N i) ed HO3.out pp c false 0 rfl hpp hc).mono ?_
    rintro e w4 ⟨rfl, ho4, hm4⟩
    have HO4 := Lib.hid ho4
    have HM4 : Hid (Mod (fun x => x = g) w w4) := HM3.out.trans hm4 (fun _ _ e => e)
    clear c1 qc ho4 hm4 HO3 HM3
    go_wp2_with fail
    with_reducible refine (lc_hang w4 p g n _ ed HO4.out i pp true 1 rfl hi hpp).mono ?_
    rintro e w5 ⟨rfl, ho5, hm5⟩
    have HO5 : Hid (LObj w5 p g n (rot3 N i) ed) := by
      show LObj _ _ _ _ _ _
      unfold rot3
      rw [HS.out, HPP.out]
      rw [← HC.out] at ho5
      exact ho5
    have HM5 : Hid (Mod (fun x => x = g) w w5) := HM4.out.trans hm5 (fun _ _ e => e)
    clear ho5 hm5 HO4 HM4
    go_wp2_with fail
    with_reducible refine (lc_refresh w5 p g n (rot3 N i) ed HO5.out pp hpp (by have := HR.out.a0; rw [HPP.out] at this; exact this) (by have := HR.out.a1; rw [HPP.out] at this; exact this)).mono ?_
    rintro e w6 ⟨rfl, ho6, hm6⟩
    have HO6 := Lib.hid ho6
    have HM6 : Hid (Mod (fun x => x = g) w w6) := HM5.out.trans hm6 (fun _ _ e => e)
    clear ho6 hm6 HO5 HM5
    go_wp2_with fail
    with_reducible refine (lc_refresh w6 p g n (refN (rot3 N i) pp) ed HO6.out i hi (by have := HR.out.b0; rw [HPP.out] at this; exact this) (by have := HR.out.b1; rw [HPP.out] at this; exact this)).mono ?_
    rintro e w7 ⟨rfl, ho7, hm7⟩
    have HO7 : Hid (LObj w7 p g n (rotN N i) ed) := by
      show LObj _ _ _ _ _ _
      unfold rotN
      rw [HPP.out]
      exact ho7
    have HM7 : Hid (Mod (fun x => x = g) w w7) := HM6.out.trans hm7 (fun _ _ e => e)
    clear ho7 hm7 HO6 HM6
    go_wp2_with fail
    go_end0
    exact ⟨rfl, HO7.out, HM7.out⟩
set_option maxHeartbeats 8000000 in
set_option maxRecDepth 100000 in
theorem lc_rotT (w : World) (p g n : Nat) (N : NS) (ed : Int) (h : LObj w p g n N ed) (i : Nat) (hi : i ≤ n) (hr : RotP N i) (hs : (sideN N i).getD false = true) :
    Calls Tryz.prog 146 #[.pointer (some ⟨p, 0, none⟩), .int .i64 (i : Int)] w (LPost w p g n (rotN N i) ed (.tuple #[])) := by
  have hn := h.nb
  have HS := Lib.hid hs
  have HR := Lib.hid hr
  obtain ⟨pp, HPP⟩ : ∃ x, Hid ((N i).up = x) := ⟨_, rfl⟩
  have hpp : pp ≤ n := by rw [← HPP.out]; exact (h.bd i hi).2.2.1
  obtain ⟨gg, HGG⟩ : ∃ x, Hid ((N pp).up = x) := ⟨_, rfl⟩
  have hgg : gg ≤ n := by rw [← HGG.out]; exact (h.bd pp hpp).2.2.1
  obtain ⟨cap1, c1⟩ := h.c1
  have q1 : w.cell? ⟨g, i * 9 + 2, none⟩ = some (.int .i64 (pp : Int)) := by rw [← HPP.out]; exact h.at_ hi 2 (by omega)
  have q2 : w.cell? ⟨g, pp * 9 + 2, none⟩ = some (.int .i64 (gg : Int)) := by rw [← HGG.out]; exact h.at_ hpp 2 (by omega)
  have g1 : (i : Int) < (n + 1 : Nat) := by omega
  have g2 : (0 : Int) ≤ (i : Int) := by omega
  have g3 : (pp : Int) < (n + 1 : Nat) := by omega
  have g4 : (0 : Int) ≤ (pp : Int) := by omega
  have HO := Lib.hid h
  have HSR : Hid (∃ b, sideR (sideN N i) = .tuple #[.int .i64 1, .bool b]) := by
    cases hq : sideN N i with
    | none => rw [hq] at hs; exact absurd hs (by decide)
    | some s => rw [hq] at hs; have : s = true := hs; subst this; exact ⟨true, rfl⟩
  clear h hr hs
  go_enter Tryz.func146, Tryz.ntmps146
  go_wp2_with fail
  obtain ⟨ob, hob⟩ := HSR.out
  have hcon := lc_side w p g n N ed HO.out i hi
  rw [hob] at hcon
  with_reducible refine hcon.mono ?_
  rintro e w1 ⟨rfl, hb1⟩
  have HO1 := Lib.hid (HO.out.below hb1)
  have HM1 : Hid (Mod (fun x => x = g) w w1) := Mod.of_below (F := fun x => x = g) hb1
  clear hb1 hcon hob c1 q1 q2 HO HSR
  go_wp2_with fail
  have hcon := lc_side w1 p g n N ed HO1.out pp hpp
  cases ha : sideN N pp with
  | some a =>
    have HA := Lib.hid ha
    obtain ⟨ai, HAI⟩ : ∃ ai : Int, Hid ((if a = true then 1 else 0) = ai) := ⟨_, rfl⟩
    rw [ha, show sideR (some a) = .tuple #[.int .i64 (if a = true then 1 else 0), .bool true] from rfl, HAI.out] at hcon
    clear ha
    with_reducible refine hcon.mono ?_
    rintro e w2 ⟨rfl, hb2⟩
    have HO2 := Lib.hid (HO1.out.below hb2)
    have HM2 : Hid (Mod (fun x => x = g) w w2) := HM1.out.trans (Mod.of_below (F := fun x => x = g) hb2) (fun _ _ e => e)
    clear hb2 hcon HO1 HM1
    go_wp2_with fail
    with_reducible refine (lc_hang w2 p g n N ed HO2.out gg i a ai HAI.out.symm hgg hi).mono ?_
    rintro e w3 ⟨rfl, ho3, hm3⟩
    have HO3 : Hid (LObj w3 p g n (rot1 N i) ed) := by
      show LObj _ _ _ _ _ _
      unfold rot1
      rw [HPP.out, HA.out, HGG.out]
      exact ho3
    have HM3 : Hid (Mod (fun x => x = g) w w3) := HM2.out.trans hm3 (fun _ _ e => e)
    clear ho3 hm3 HO2 HM2
    obtain ⟨cap1, c1⟩ := HO3.out.c1
    obtain ⟨c, HC⟩ : ∃ c, Hid (kid (rot1 N i) false i = c) := ⟨_, rfl⟩
    have hc : c ≤ n := by rw [← HC.out]; exact BdN.kid HO3.out.bd false hi
    have qc : w3.cell? ⟨g, i * 9, none⟩ = some (.int .i64 (c : Int)) := by rw [← HC.out]; exact HO3.out.at_ hi 0 (by omega)
    go_wp2_with fail
    with_reducible refine (lc_hang w3 p g n (rot1 N i) ed HO3.out pp c true 1 rfl hpp hc).mono ?_
    rintro e w4 ⟨rfl, ho4, hm4⟩
    have HO4 := Lib.hid ho4
    have HM4 : Hid (Mod (fun x => x = g) w w4) := HM3.out.trans hm4 (fun _ _ e => e)
    clear c1 qc ho4 hm4 HO3 HM3
    go_wp2_with fail
    with_reducible refine (lc_hang w4 p g n _ ed HO4.out i pp false 0 rfl hi hpp).mono ?_
    rintro e w5 ⟨rfl, ho5, hm5⟩
    have HO5 : Hid (LObj w5 p g n (rot3 N i) ed) := by
      show LObj _ _ _ _ _ _
      unfold rot3
      rw [HS.out, HPP.out]
      rw [← HC.out] at ho5
      exact ho5
    have HM5 : Hid (Mod (fun x => x = g) w w5) := HM4.out.trans hm5 (fun _ _ e => e)
    clear ho5 hm5 HO4 HM4
    go_wp2_with fail
    with_reducible refine (lc_refresh w5 p g n (rot3 N i) ed HO5.out pp hpp (by have := HR.out.a0; rw [HPP.out] at this; exact this) (by have := HR.out.a1; rw [HPP.out] at this; exact this)).mono ?_
    rintro e w6 ⟨rfl, ho6, hm6⟩
    have HO6 := Lib.hid ho6
    have HM6 : Hid (Mod (fun x => x = g) w w6) := HM5.out.trans hm6 (fun _ _ e => e)
    clear ho6 hm6 HO5 HM5
    go_wp2_with fail
    with_reducible refine (lc_refresh w6 p g n (refN (rot3 N i) pp) ed HO6.out i hi (by have := HR.out.b0; rw [HPP.out] at this; exact this) (by have := HR.out.b1; rw [HPP.out] at this; exact this)).mono ?_
    rintro e w7 ⟨rfl, ho7, hm7⟩
    have HO7 : Hid (LObj w7 p g n (rotN N i) ed) := by
      show LObj _ _ _ _ _ _
      unfold rotN
      rw [HPP.out]
      exact ho7
    have HM7 : Hid (Mod (fun x => x = g) w w7) := HM6.out.trans hm7 (fun _ _ e => e)
    clear ho7 hm7 HO6 HM6
    go_wp2_with fail
    go_end0
    exact ⟨rfl, HO7.out, HM7.out⟩
  | none =>
    have HA := Lib.hid ha
    rw [ha, show sideR none = .tuple #[.int .i64 0, .bool false] from rfl] at hcon
    clear ha
    with_reducible refine hcon.mono ?_
    rintro e w2 ⟨rfl, hb2⟩
    have HO2 := Lib.hid (HO1.out.below hb2)
    have HM2 : Hid (Mod (fun x => x = g) w w2) := HM1.out.trans (Mod.of_below (F := fun x => x = g) hb2) (fun _ _ e => e)
    clear hb2 hcon HO1 HM1
    obtain ⟨cap1, c1⟩ := HO2.out.c1
    obtain ⟨u2, q2⟩ : ∃ u2 : Nat, w2.cell? ⟨g, i * 9 + 2, none⟩ = some (.int .i64 (u2 : Int)) := ⟨_, HO2.out.at_ hi 2 (by omega)⟩
    have f2 : w2.frozen? ⟨g, i * 9 + 2, none⟩ = false := HO2.out.fr _
    have HO3 : Hid (LObj (w2.setCell ⟨g, i * 9 + 2, none⟩ (.int .i64 (gg : Int))) p g n (rot1 N i) ed) := by
      show LObj _ _ _ _ _ _
      unfold rot1
      rw [HPP.out, HA.out, HGG.out]
      obtain ⟨b0, b1, b2, b3⟩ := HO2.out.bd i hi
      exact HO2.out.set (j := 2) (v := { N i with up := gg }) hi (by omega) ⟨b0, b1, hgg, b3⟩ (fun r hr hne => match r, hr, hne with
      | 0, _, _ => rfl
      | 1, _, _ => rfl
      | 3, _, _ => rfl
      | 4, _, _ => rfl
      | 5, _, _ => rfl
      | 6, _, _ => rfl
      | 7, _, _ => rfl
      | 8, _, _ => rfl) rfl
    have HM3 : Hid (Mod (fun x => x = g) w (w2.setCell ⟨g, i * 9 + 2, none⟩ (.int .i64 (gg : Int)))) := HM2.out.setCell ⟨g, i * 9 + 2, none⟩ (fun _ => rfl) _
    go_upto_region 7 with fail
    clear c1 q2 f2 HO2 HM2
    generalize w2.setCell ⟨g, i * 9 + 2, none⟩ (.int .i64 (gg : Int)) = w3 at *
    obtain ⟨cap1, c1⟩ := HO3.out.c1
    obtain ⟨c, HC⟩ : ∃ c, Hid (kid (rot1 N i) false i = c) := ⟨_, rfl⟩
    have hc : c ≤ n := by rw [← HC.out]; exact BdN.kid HO3.out.bd false hi
    have qc : w3.cell? ⟨g, i * 9, none⟩ = some (.int .i64 (c : Int)) := by rw [← HC.out]; exact HO3.out.at_ hi 0 (by omega)
    go_wp2_with fail
    with_reducible refine (lc_hang w3 p g n (rot1 N i) ed HO3.out pp c true 1 rfl hpp hc).mono ?_
    rintro e w4 ⟨rfl, ho4, hm4⟩
    have HO4 := Lib.hid ho4
    have HM4 : Hid (Mod (fun x => x = g) w w4) := HM3.out.trans hm4 (fun _ _ e => e)
    clear c1 qc ho4 hm4 HO3 HM3
    go_wp2_with fail
    with_reducible refine (lc_hang w4 p g n _ ed HO4.out i pp false 0 rfl hi hpp).mono ?_
    rintro e w5 ⟨rfl, ho5, hm5⟩
    have HO5 : Hid (LObj w5 p g n (rot3 N i) ed) := by
      show LObj _ _ _ _ _ _
      unfold rot3
      rw [HS.out, HPP.out]
      rw [← HC.out] at ho5
      exact ho5
    have HM5 : Hid (Mod (fun x => x = g) w w5) := HM4.out.trans hm5 (fun _ _ e => e)
    clear ho5 hm5 HO4 HM4
    go_wp2_with fail
    with_reducible refine (lc_refresh w5 p g n (rot3 N i) ed HO5.out pp hpp (by have := HR.out.a0; rw [HPP.out] at this; exact this) (by have := HR.out.a1; rw [HPP.out] at this; exact this)).mono ?_
    rintro e w6 ⟨rfl, ho6, hm6⟩
    have HO6 := Lib.hid ho6
    have HM6 : Hid (Mod (fun x => x = g) w w6) := HM5.out.trans hm6 (fun _ _ e => e)
    clear ho6 hm6 HO5 HM5
    go_wp2_with fail
    with_reducible refine (lc_refresh w6 p g n (refN (rot3 N i) pp) ed HO6.out i hi (by have := HR.out.b0; rw [HPP.out] at this; exact this) (by have := HR.out.b1; rw [HPP.out] at this; exact this)).mono ?_
    rintro e w7 ⟨rfl, ho7, hm7⟩
    have HO7 : Hid (LObj w7 p g n (rotN N i) ed) := by
      show LObj _ _ _ _ _ _
      unfold rotN
      rw [HPP.out]
      exact ho7
    have HM7 : Hid (Mod (fun x => x = g) w w7) := HM6.out.trans hm7 (fun _ _ e => e)
    clear ho7 hm7 HO6 HM6
    go_wp2_with fail
    go_end0
    exact ⟨rfl, HO7.out, HM7.out⟩
theorem lc_rotate (w : World) (p g n : Nat) (N : NS) (ed : Int) (h : LObj w p g n N ed) (i : Nat) (hi : i ≤ n) (hr : RotP N i) :
    Calls Tryz.prog 146 #[.pointer (some ⟨p, 0, none⟩), .int .i64 (i : Int)] w (LPost w p g n (rotN N i) ed (.tuple #[])) := by
  cases hs : (sideN N i).getD false with
  | false => exact lc_rotF w p g n N ed h i hi hr hs
  | true => exact lc_rotT w p g n N ed h i hi hr hs
end Go.Proofs.YtlooaipipmiijaaGreat
